/-
  HOW THE ABSTRACT MACHINE'S VALUES AND HEAP STAND TO THE MODEL'S: the relations, and their first laws.
-/
import Derived.Test.YtocoadpepofbbaaG1
import Derived.RangeFuncLeaves
import Derived.LoopNIn
import Derived.OrdersIn
import Derived.Below
import Derived.Laws.Sem
import Derived.Laws.World
import Derived.Laws.Tables
import Derived.Laws.MakeOwn
import Derived.Laws.CopyRow
import Derived.Laws.Cells
import Derived.Laws.BytesString
import Derived.Great.BuildSlice
set_option linter.unusedVariables false
set_option linter.unusedSimpArgs false
namespace Go.Proofs.Ytocoadpepofbbaa.AM
open Go

structure Loc where
  c : Nat
  o : Nat
  sz : Nat
  deriving DecidableEq, Inhabited

/-- Where a block of a generation lies. -/
abbrev Emb := Nat → Nat → Option Loc

def CapOk (l : Loc) (a : Ad) (cap : Nat) : Cap → Prop
  | .k n => cap = n
  | .u s => s = 0 ∨ l.o + a.o + cap * s ≤ l.sz

mutual
inductive VRel (ι : Emb) : AV → Value → Prop
  | int (k : IntKind) (n : Int) : VRel ι (.int k n) (.int k n)
  | bool (b : Bool) : VRel ι (.bool b) (.bool b)
  | str (s : ByteArray) : VRel ι (.str s) (.string s)
  | ptrN : VRel ι (.ptr none) (.pointer none)
  | ptr {a : Ad} {l : Loc} (h : ι a.b a.g = some l) : VRel ι (.ptr (some a)) (.pointer (some ⟨l.c, l.o + a.o, none⟩))
  | slN : VRel ι (.sl none 0 (.k 0)) (.slice none 0 0)
  | sl {a : Ad} {l : Loc} {len cap : Nat} {cp : Cap} {ad : Addr} (h : ι a.b a.g = some l) (hl : len ≤ cap) (hc : CapOk l a cap cp)
      (ha : 0 < cap → ad = ⟨l.c, l.o + a.o, none⟩) : VRel ι (.sl (some a) len cp) (.slice (some ad) len cap)
  | mapN : VRel ι (.map none) (.map none)
  | map {r : Nat} {l : Loc} (h : ι r 0 = some l) : VRel ι (.map (some r)) (.map (some l.c))
  | fn {f : FuncId} {cs : List AV} {vs : List Value} (h : VRelL ι cs vs) : VRel ι (.fn f cs) (.func (.func f) #[] vs.toArray)
  | yld {r : Nat} {l : Loc} (h : ι r 0 = some l) : VRel ι (.yld r) (.func (.yield l.c) #[] #[])
  | nilFn : VRel ι .nilFn .nilFunc
  | agg {cs : List AV} {vs : List Value} (h : VRelL ι cs vs) : VRel ι (.agg cs) (.agg vs.toArray)
  | tup {cs : List AV} {vs : List Value} (h : VRelL ι cs vs) : VRel ι (.tup cs) (.tuple vs.toArray)
inductive VRelL (ι : Emb) : List AV → List Value → Prop
  | nil : VRelL ι [] []
  | cons {c : AV} {v : Value} {cs : List AV} {vs : List Value} (h : VRel ι c v) (t : VRelL ι cs vs) : VRelL ι (c :: cs) (v :: vs)
end

def Sub (ι ι' : Emb) : Prop := ∀ b g l, ι b g = some l → ι' b g = some l
theorem Sub.refl (ι : Emb) : Sub ι ι := fun _ _ _ h => h
theorem Sub.trans {a b c : Emb} (h : Sub a b) (k : Sub b c) : Sub a c := fun _ _ _ x => k _ _ _ (h _ _ _ x)

mutual
theorem VRel.mono {ι ι' : Emb} (hs : Sub ι ι') : ∀ {v : AV} {x : Value}, VRel ι v x → VRel ι' v x
  | _, _, .int k n => .int k n
  | _, _, .bool b => .bool b
  | _, _, .str s => .str s
  | _, _, .ptrN => .ptrN
  | _, _, .ptr h => .ptr (hs _ _ _ h)
  | _, _, .slN => .slN
  | _, _, .sl h hl hc ha => .sl (hs _ _ _ h) hl hc ha
  | _, _, .mapN => .mapN
  | _, _, .map h => .map (hs _ _ _ h)
  | _, _, .fn h => .fn (VRelL.mono hs h)
  | _, _, .yld h => .yld (hs _ _ _ h)
  | _, _, .nilFn => .nilFn
  | _, _, .agg h => .agg (VRelL.mono hs h)
  | _, _, .tup h => .tup (VRelL.mono hs h)
theorem VRelL.mono {ι ι' : Emb} (hs : Sub ι ι') : ∀ {v : List AV} {x : List Value}, VRelL ι v x → VRelL ι' v x
  | _, _, .nil => .nil
  | _, _, .cons h t => .cons (VRel.mono hs h) (VRelL.mono hs t)
end

theorem VRelL.length {ι : Emb} : ∀ {cs : List AV} {vs : List Value}, VRelL ι cs vs → cs.length = vs.length
  | _, _, .nil => rfl
  | _, _, .cons _ t => by simp [VRelL.length t]
theorem VRelL.get {ι : Emb} : ∀ {cs : List AV} {vs : List Value}, VRelL ι cs vs → ∀ {j : Nat} {c : AV}, cs[j]? = some c → ∃ v, vs[j]? = some v ∧ VRel ι c v
  | _, _, .nil, j, c, h => by simp at h
  | _, _, .cons (v := v) hv t, 0, c, h => by simp at h; subst h; exact ⟨v, rfl, hv⟩
  | _, _, .cons hv t, j + 1, c, h => by simpa using VRelL.get t (j := j) (by simpa using h)
theorem VRelL.getD {ι : Emb} {cs : List AV} {vs : List Value} (h : VRelL ι cs vs) {j : Nat} {c : AV} (hj : cs[j]? = some c) : ∃ v, vs[j]? = some v ∧ VRel ι c v := h.get hj
theorem VRelL.of_get {ι : Emb} : ∀ {cs : List AV} {vs : List Value}, cs.length = vs.length → (∀ (j : Nat) (c : AV), cs[j]? = some c → ∃ v, vs[j]? = some v ∧ VRel ι c v) → VRelL ι cs vs
  | [], [], _, _ => .nil
  | [], _ :: _, h, _ => by simp at h
  | _ :: _, [], h, _ => by simp at h
  | c :: cs, v :: vs, h, k => by
    obtain ⟨v', h1, h2⟩ := k 0 c rfl
    simp at h1; subst h1
    exact .cons h2 (VRelL.of_get (by simpa using h) fun j c hj => by simpa using k (j + 1) c (by simpa using hj))
theorem VRelL.append {ι : Emb} : ∀ {a : List AV} {x : List Value} {b : List AV} {y : List Value}, VRelL ι a x → VRelL ι b y → VRelL ι (a ++ b) (x ++ y)
  | _, _, _, _, .nil, h => h
  | _, _, _, _, .cons h t, k => .cons h (VRelL.append t k)
theorem VRelL.take {ι : Emb} : ∀ {a : List AV} {x : List Value} (n : Nat), VRelL ι a x → VRelL ι (a.take n) (x.take n)
  | _, _, 0, _ => by simp; exact .nil
  | _, _, _ + 1, .nil => .nil
  | _, _, n + 1, .cons h t => .cons h (VRelL.take n t)
theorem VRelL.drop {ι : Emb} : ∀ {a : List AV} {x : List Value} (n : Nat), VRelL ι a x → VRelL ι (a.drop n) (x.drop n)
  | _, _, 0, h => h
  | _, _, _ + 1, .nil => .nil
  | _, _, n + 1, .cons h t => VRelL.drop n t
theorem VRelL.set {ι : Emb} : ∀ {a : List AV} {x : List Value} (n : Nat) {c : AV} {v : Value}, VRelL ι a x → VRel ι c v → VRelL ι (a.set n c) (x.set n v)
  | _, _, _, _, _, .nil, _ => .nil
  | _, _, 0, _, _, .cons _ t, h => .cons h t
  | _, _, n + 1, _, _, .cons k t, h => .cons k (VRelL.set n t h)
theorem VRelL.rep {ι : Emb} {z : List AV} {x : List Value} (h : VRelL ι z x) : ∀ n : Nat, VRelL ι (List.replicate n z).flatten (List.replicate n x).flatten
  | 0 => .nil
  | n + 1 => by simp only [List.replicate_succ, List.flatten_cons]; exact h.append (VRelL.rep h n)

mutual
theorem toAV_sound (ι : Emb) : ∀ (x : Value) {v : AV}, toAV x = some v → VRel ι v x
  | .int k n, v, h => by simp [toAV] at h; subst h; exact .int k n
  | .bool b, v, h => by simp [toAV] at h; subst h; exact .bool b
  | .string s, v, h => by simp [toAV] at h; subst h; exact .str s
  | .pointer none, v, h => by simp [toAV] at h; subst h; exact .ptrN
  | .pointer (some a), v, h => by simp [toAV] at h
  | .slice none 0 0, v, h => by simp [toAV] at h; subst h; exact .slN
  | .slice none 0 (n + 1), v, h => by simp [toAV] at h
  | .slice none (n + 1) k, v, h => by simp [toAV] at h
  | .slice (some a) l c, v, h => by simp [toAV] at h
  | .map none, v, h => by simp [toAV] at h; subst h; exact .mapN
  | .map (some r), v, h => by simp [toAV] at h
  | .nilFunc, v, h => by simp [toAV] at h; subst h; exact .nilFn
  | .agg ⟨cs⟩, v, h => by
    simp only [toAV] at h
    split at h
    · rename_i cs' hcs
      cases h
      exact .agg (toAVL_sound ι cs hcs)
    · cases h
  | .tuple ⟨cs⟩, v, h => by
    simp only [toAV] at h
    split at h
    · rename_i cs' hcs
      cases h
      exact .tup (toAVL_sound ι cs hcs)
    · cases h
  | .float .., v, h => by simp [toAV] at h
  | .complex .., v, h => by simp [toAV] at h
  | .chan .., v, h => by simp [toAV] at h
  | .func .., v, h => by simp [toAV] at h
  | .iface .., v, h => by simp [toAV] at h
  | .nilIface, v, h => by simp [toAV] at h
theorem toAVL_sound (ι : Emb) : ∀ (xs : List Value) {vs : List AV}, toAVL xs = some vs → VRelL ι vs xs
  | [], vs, h => by simp [toAVL] at h; subst h; exact .nil
  | x :: xs, vs, h => by
    simp only [toAVL] at h
    split at h
    · rename_i a b ha hb
      cases h
      exact .cons (toAV_sound ι x ha) (toAVL_sound ι xs hb)
    · cases h
end

/-! ### temporaries -/
theorem eget_eset : ∀ (e : List AV) (i : Nat) (v : AV) (j : Nat), eget (eset e i v) j = if j = i then v else eget e j
  | [], 0, v, 0 => by simp [eset, eget]
  | [], 0, v, j + 1 => by simp [eset, eget]
  | [], i + 1, v, 0 => by simp [eset, eget]
  | [], i + 1, v, j + 1 => by simp [eset, eget, eget_eset [] i v j]
  | x :: l, 0, v, 0 => by simp [eset, eget]
  | x :: l, 0, v, j + 1 => by simp [eset, eget]
  | x :: l, i + 1, v, 0 => by simp [eset, eget]
  | x :: l, i + 1, v, j + 1 => by simp [eset, eget, eget_eset l i v j]

def ERel (ι : Emb) (nt : Nat) (e : List AV) (tmps : Array Value) : Prop :=
  tmps.size = nt ∧ ∀ t, VRel ι (eget e t) (tmps.getD t undef)
theorem ERel.mono {ι ι' : Emb} (hs : Sub ι ι') {nt : Nat} {e : List AV} {tmps : Array Value} (h : ERel ι nt e tmps) : ERel ι' nt e tmps :=
  ⟨h.1, fun t => (h.2 t).mono hs⟩
theorem undef_rel (ι : Emb) : VRel ι undefA undef := .tup .nil
theorem ERel.put {ι : Emb} {nt : Nat} {e : List AV} {a : Act} (h : ERel ι nt e a.tmps) {d : Nat} (hd : d < nt) {v : AV} {x : Value} (hv : VRel ι v x) :
    ERel ι nt (eset e d v) (a.put (some d) x).tmps := by
  refine ⟨by simp [Act.put, h.1], fun t => ?_⟩
  rw [eget_eset]
  have hd' : d < a.tmps.size := by rw [h.1]; exact hd
  by_cases ht : t = d
  · subst ht
    simp only [if_true, Act.put, Array.getD_eq_getD_getElem?, Array.getElem?_setIfInBounds, hd']
    simpa using hv
  · have : (a.put (some d) x).tmps.getD t undef = a.tmps.getD t undef := by
      simp only [Act.put, Array.getD_eq_getD_getElem?, Array.getElem?_setIfInBounds]
      rw [if_neg (fun e => ht e.symm)]
    rw [if_neg ht, this]
    exact h.2 t
theorem ERel.putO {ι : Emb} {nt : Nat} {e : List AV} {a : Act} (h : ERel ι nt e a.tmps) {dst : Option Nat} (hd : ∀ d, dst = some d → d < nt) {v : AV} {x : Value} (hv : VRel ι v x) :
    ERel ι nt (match dst with | some d => eset e d v | none => e) (a.put dst x).tmps := by
  cases dst with
  | none => exact h
  | some d => exact h.put (hd d rfl) hv

theorem opd_sound {ι : Emb} {nt : Nat} {e : List AV} {a : Act} (h : ERel ι nt e a.tmps) {x : Operand} {ax : AOpd} (hx : opd x = some ax) : VRel ι (av e ax) (a.eval x) := by
  cases x with
  | tmp t => simp [opd] at hx; subst hx; exact h.2 t
  | const v =>
    simp only [opd, Option.map_eq_some_iff] at hx
    obtain ⟨w, hw, rfl⟩ := hx
    exact toAV_sound ι v hw
  | global g => simp [opd] at hx
  | func f => simp [opd] at hx; subst hx; exact .fn .nil
theorem opds_sound {ι : Emb} {nt : Nat} {e : List AV} {a : Act} (h : ERel ι nt e a.tmps) : ∀ {xs : List Operand} {as : List AOpd}, opds xs = some as → VRelL ι (as.map (av e)) (xs.map a.eval)
  | [], as, hx => by simp [opds] at hx; subst hx; exact .nil
  | x :: xs, as, hx => by
    simp only [opds] at hx
    split at hx
    · rename_i b bs hb hbs
      cases hx
      exact .cons (opd_sound h hb) (opds_sound h hbs)
    · cases hx

/-! ### the heap -/
def bgen : ABlk → Nat
  | .row _ cs => cs.length
  | _ => 0
def own : ABlk → Bool
  | .row ro _ => !ro
  | _ => true

inductive ERelK (ι : Emb) : List (AV × AV) → List MapEntry → Prop
  | nil : ERelK ι [] []
  | cons {k v : AV} {m : MapEntry} {es : List (AV × AV)} {ms : List MapEntry} (hk : VRel ι k m.key) (hv : VRel ι v m.val) (t : ERelK ι es ms) : ERelK ι ((k, v) :: es) (m :: ms)
theorem ERelK.mono {ι ι' : Emb} (hs : Sub ι ι') : ∀ {es : List (AV × AV)} {ms : List MapEntry}, ERelK ι es ms → ERelK ι' es ms
  | _, _, .nil => .nil
  | _, _, .cons hk hv t => .cons (hk.mono hs) (hv.mono hs) (ERelK.mono hs t)

def pendRel : Option AExit → Option Code → Prop
  | none, none => True
  | some .ret, some .ret => True
  | some (.exit i), some (.exit j) => i = j
  | _, _ => False

structure LRel (P : Program) (ι : Emb) (lp : ALoop) (r : Loop) : Prop where
  st : r.state = lp.st
  pend : pendRel lp.pend r.pending
  e : ERel ι r.tmps.size lp.e r.tmps
  params : r.params.toList = lp.params
  plt : ∀ t ∈ lp.params, t < r.tmps.size
  assign : comp P r.tmps.size r.assign = some lp.assign
  body : comp P r.tmps.size r.body = some lp.body
theorem LRel.mono {P : Program} {ι ι' : Emb} (hs : Sub ι ι') {lp : ALoop} {r : Loop} (h : LRel P ι lp r) : LRel P ι' lp r :=
  ⟨h.st, h.pend, h.e.mono hs, h.params, h.plt, h.assign, h.body⟩

/-- The cells of a row, one by one. -/
def RowR (ι : Emb) (cs : List AV) (f : Nat → Option Value) : Prop := ∀ (j : Nat) (v : AV), cs[j]? = some v → ∃ v', f j = some v' ∧ VRel ι v v'
theorem RowR.mono {ι ι' : Emb} (hs : Sub ι ι') {cs : List AV} {f : Nat → Option Value} (h : RowR ι cs f) : RowR ι' cs f :=
  fun j v hv => let ⟨v', h1, h2⟩ := h j v hv; ⟨v', h1, h2.mono hs⟩

def BRel (P : Program) (B : Nat) (ι : Emb) (w : World) (b : Nat) : ABlk → Prop
  | .row true cs => ∀ l, ι b cs.length = some l → RowR ι cs (fun j => w.cell? ⟨l.c, l.o + j, none⟩)
  | .row false cs => ∀ l, ι b cs.length = some l → l.o = 0 ∧ B ≤ l.c ∧ ∃ c e, w.heap[l.c]? = some (.cells c e (0, 0)) ∧ c.size = l.sz ∧ RowR ι cs (fun j => c[j]?)
  | .map ag ks es => ∀ l, ι b 0 = some l → B ≤ l.c ∧ (es.all fun p => shapeK ag ks p.1) = true ∧ ∃ ms k, w.heap[l.c]? = some (.map ms k) ∧ ERelK ι es ms.toList
  | .defr => ∀ l, ι b 0 = some l → B ≤ l.c ∧ w.heap[l.c]? = some (.deferred (some []))
  | .loop lp => ∀ l, ι b 0 = some l → B ≤ l.c ∧ ∃ r, w.heap[l.c]? = some (.loop r) ∧ LRel P ι lp r

/-- What a block says stays true where its place reads the same and the embedding of its own generation is the same. -/
theorem BRel.keep {P : Program} {B : Nat} {ι ι' : Emb} {w w' : World} {b : Nat} {k : ABlk} (hs : Sub ι ι') (h : BRel P B ι w b k)
    (hι : ∀ l, ι' b (bgen k) = some l → ι b (bgen k) = some l)
    (hw : ∀ l, ι b (bgen k) = some l → w'.heap[l.c]? = w.heap[l.c]?) : BRel P B ι' w' b k := by
  cases k with
  | row ro cs =>
    cases ro with
    | true =>
      intro l hl
      have hl0 := hι l hl
      intro j v hv
      obtain ⟨v', h1, h2⟩ := h l hl0 j v hv
      refine ⟨v', ?_, h2.mono hs⟩
      rw [← h1]
      have := hw l hl0
      simp only [World.cell?, this]
    | false =>
      intro l hl
      have hl0 := hι l hl
      obtain ⟨h1, h2, c, e, h3, h4, h5⟩ := h l hl0
      exact ⟨h1, h2, c, e, by rw [hw l hl0]; exact h3, h4, h5.mono hs⟩
  | map ag ks es =>
    intro l hl
    have hl0 := hι l hl
    obtain ⟨h2, h1, ms, k, h3, h5⟩ := h l hl0
    exact ⟨h2, h1, ms, k, by rw [hw l hl0]; exact h3, h5.mono hs⟩
  | defr =>
    intro l hl
    have hl0 := hι l hl
    obtain ⟨h2, h3⟩ := h l hl0
    exact ⟨h2, by rw [hw l hl0]; exact h3⟩
  | loop lp =>
    intro l hl
    have hl0 := hι l hl
    obtain ⟨h2, r, h3, h5⟩ := h l hl0
    exact ⟨h2, r, by rw [hw l hl0]; exact h3, h5.mono hs⟩

structure Misc (w w' : World) : Prop where
  os : w'.os = w.os
  tape : w'.tape = w.tape
  output : w'.output = w.output
  size : w.heap.size ≤ w'.heap.size
theorem Misc.refl (w : World) : Misc w w := ⟨rfl, rfl, rfl, Nat.le_refl _⟩
theorem Misc.trans {a b c : World} (h : Misc a b) (k : Misc b c) : Misc a c := ⟨k.os.trans h.os, k.tape.trans h.tape, k.output.trans h.output, Nat.le_trans h.size k.size⟩

/-- The heaps stand to each other. -/
structure HRel (P : Program) (B : Nat) (ι : Emb) (h : List ABlk) (w : World) : Prop where
  blk : ∀ (b : Nat) (k : ABlk), h[b]? = some k → BRel P B ι w b k
  dom : ∀ (b g : Nat) (l : Loc), ι b g = some l → l.c < w.heap.size ∧ ∃ k : ABlk, h[b]? = some k ∧ g ≤ bgen k
  inj : ∀ (b b' : Nat) (k k' : ABlk) (l l' : Loc), h[b]? = some k → h[b']? = some k' → ι b (bgen k) = some l → ι b' (bgen k') = some l' → own k = true → b ≠ b' → l.c ≠ l'.c
  hB : B ≤ w.heap.size

/-- What a step does: the embedding is made larger; the blocks 'wr' were written; all else is as it was. -/
structure Ext (P : Program) (B : Nat) (ι : Emb) (h : List ABlk) (w : World) (wr : List Nat) (ι' : Emb) (h' : List ABlk) (w' : World) : Prop where
  misc : Misc w w'
  sub : Sub ι ι'
  len : h.length ≤ h'.length
  keep : ∀ b : Nat, b < h.length → b ∉ wr → h'[b]? = h[b]?
  gen : ∀ (b : Nat) (k : ABlk), h[b]? = some k → ∃ k', h'[b]? = some k' ∧ bgen k ≤ bgen k' ∧ own k' = own k
  wrl : ∀ b ∈ wr, ∃ k, h[b]? = some k ∧ own k = true
  wrd : ∀ b ∈ wr, ∃ k l, h[b]? = some k ∧ ι b (bgen k) = some l
  dk : ∀ b : Nat, h[b]? = some .defr → h'[b]? = some .defr
  new : ∀ b g l, ι' b g = some l → ι b g = some l ∨
    (∃ k', h'[b]? = some k' ∧ g ≤ bgen k' ∧ l.c < w'.heap.size ∧ ((h.length ≤ b ∧ w.heap.size ≤ l.c) ∨
      (b ∈ wr ∧ ∃ k, h[b]? = some k ∧ bgen k < g ∧ (w.heap.size ≤ l.c ∨ ∃ l0, ι b (bgen k) = some l0 ∧ l0.c = l.c))))
  blk : ∀ (b : Nat) (k' : ABlk), h'[b]? = some k' → (h.length ≤ b ∨ b ∈ wr) → BRel P B ι' w' b k'
  inj : ∀ (b b' : Nat) (k k' : ABlk) (l l' : Loc), h'[b]? = some k → h'[b']? = some k' → (h.length ≤ b ∨ b ∈ wr) → (h.length ≤ b' ∨ b' ∈ wr) → ι' b (bgen k) = some l → ι' b' (bgen k') = some l' → b ≠ b' → l.c ≠ l'.c
  newOwn : ∀ (b : Nat) (k' : ABlk), h'[b]? = some k' → h.length ≤ b → own k' = true
  frame : ∀ c, c < w.heap.size → (∀ (b : Nat) (k : ABlk) (l : Loc), b ∈ wr → h[b]? = some k → ι b (bgen k) = some l → l.c ≠ c) → w'.heap[c]? = w.heap[c]?

end Go.Proofs.Ytocoadpepofbbaa.AM

/-
  STEPS OF THE TWO HEAPS: what a step keeps, two steps one behind the other, and the kinds of steps that there are.
-/
set_option linter.unusedVariables false
set_option linter.unusedSimpArgs false
namespace Go.Proofs.Ytocoadpepofbbaa.AM
open Go

theorem lt_of_get {α : Type} {l : List α} {i : Nat} {x : α} (h : l[i]? = some x) : i < l.length := by
  rcases Nat.lt_or_ge i l.length with h' | h'
  · exact h'
  · simp [List.getElem?_eq_none h'] at h

section
variable {P : Program} {B : Nat} {ι ι' : Emb} {h h' : List ABlk} {w w' : World} {wr : List Nat}

/-- An embedding's old entry, at the newest generation of a block that a step may have made longer. -/
theorem Ext.old_gen (H : HRel P B ι h w) (E : Ext P B ι h w wr ι' h' w') {b : Nat} {k k' : ABlk} (hk : h[b]? = some k) (hk' : h'[b]? = some k') {l : Loc}
    (hl : ι b (bgen k') = some l) : bgen k' = bgen k := by
  obtain ⟨_, k0, h0, hle⟩ := H.dom _ _ _ hl
  rw [hk] at h0; cases h0
  obtain ⟨k1, h1, hle', _⟩ := E.gen b k hk
  rw [hk'] at h1; cases h1
  omega

theorem Ext.loc_old (H : HRel P B ι h w) (E : Ext P B ι h w wr ι' h' w') {b : Nat} {k' : ABlk} (hb : b < h.length) (hwr : b ∉ wr) (hk' : h'[b]? = some k') {l : Loc}
    (hl : ι' b (bgen k') = some l) : h[b]? = some k' ∧ ι b (bgen k') = some l := by
  have hk : h[b]? = some k' := by rw [← E.keep b hb hwr]; exact hk'
  refine ⟨hk, ?_⟩
  rcases E.new _ _ _ hl with h1 | ⟨_, _, _, _, ⟨h2, _⟩ | ⟨h2, _⟩⟩
  · exact h1
  · omega
  · exact absurd h2 hwr

/-- The place of a written block behind the step: its old place, or a new one. -/
theorem Ext.loc_wr (H : HRel P B ι h w) (E : Ext P B ι h w wr ι' h' w') {b : Nat} {k k' : ABlk} (hk : h[b]? = some k) (hk' : h'[b]? = some k') {l : Loc}
    (hl : ι' b (bgen k') = some l) : w.heap.size ≤ l.c ∨ ∃ l0, ι b (bgen k) = some l0 ∧ l0.c = l.c := by
  rcases E.new _ _ _ hl with h1 | ⟨_, _, _, _, ⟨h2, h3⟩ | ⟨h2, k0, h3, h4, h5⟩⟩
  · have := E.old_gen H hk hk' h1
    rw [this] at h1
    exact .inr ⟨l, h1, rfl⟩
  · exact .inl h3
  · rw [hk] at h3; cases h3
    exact h5

theorem Ext.loc_new (H : HRel P B ι h w) (E : Ext P B ι h w wr ι' h' w') {b g : Nat} (hb : h.length ≤ b) {l : Loc} (hl : ι' b g = some l) : w.heap.size ≤ l.c := by
  rcases E.new _ _ _ hl with h1 | ⟨_, _, _, _, ⟨h2, h3⟩ | ⟨h2, k0, h3, _⟩⟩
  · obtain ⟨_, k0, h0, _⟩ := H.dom _ _ _ h1
    have := lt_of_get h0
    omega
  · exact h3
  · have := lt_of_get h3
    omega

theorem Ext.own_of (E : Ext P B ι h w wr ι' h' w') {b : Nat} {k' : ABlk} (hk' : h'[b]? = some k') (hA : h.length ≤ b ∨ b ∈ wr) : own k' = true := by
  rcases hA with hA | hA
  · exact E.newOwn b k' hk' hA
  · obtain ⟨k, hk, ho⟩ := E.wrl b hA
    obtain ⟨k1, h1, _, h2⟩ := E.gen b k hk
    rw [hk'] at h1; cases h1
    rw [h2]; exact ho

theorem Ext.hrel (H : HRel P B ι h w) (E : Ext P B ι h w wr ι' h' w') : HRel P B ι' h' w' := by
  have hA : ∀ b : Nat, (h.length ≤ b ∨ b ∈ wr) ∨ (b < h.length ∧ b ∉ wr) := fun b => by
    by_cases h1 : h.length ≤ b
    · exact .inl (.inl h1)
    · by_cases h2 : b ∈ wr
      · exact .inl (.inr h2)
      · exact .inr ⟨by omega, h2⟩
  have cross : ∀ (b b' : Nat) (k k' : ABlk) (l l' : Loc), h'[b]? = some k → h'[b']? = some k' → ι' b (bgen k) = some l → ι' b' (bgen k') = some l' →
      (h.length ≤ b ∨ b ∈ wr) → (b' < h.length ∧ b' ∉ wr) → l.c ≠ l'.c := by
    intro b b' k k' l l' hk hk' hl hl' hbA hbN
    obtain ⟨h1, h2⟩ := E.loc_old H hbN.1 hbN.2 hk' hl'
    have hlt := (H.dom _ _ _ h2).1
    rcases hbA with hbA | hbA
    · have := E.loc_new H hbA hl
      omega
    · obtain ⟨k0, hk0, ho⟩ := E.wrl b hbA
      rcases E.loc_wr H hk0 hk hl with h3 | ⟨l0, h3, h4⟩
      · omega
      · rw [← h4]
        exact H.inj b b' k0 k' l0 l' hk0 h1 h3 h2 ho (fun e => hbN.2 (e ▸ hbA))
  refine ⟨?_, ?_, ?_, Nat.le_trans H.hB E.misc.size⟩
  · intro b k' hk'
    rcases hA b with hb | ⟨hb, hn⟩
    · exact E.blk b k' hk' hb
    · have hk : h[b]? = some k' := by rw [← E.keep b hb hn]; exact hk'
      refine BRel.keep E.sub (H.blk b k' hk) (fun l hl => (E.loc_old H hb hn hk' hl).2) (fun l hl => ?_)
      refine E.frame l.c (H.dom _ _ _ hl).1 fun b1 k1 l1 hb1 hk1 hl1 => ?_
      obtain ⟨k2, hk2, ho⟩ := E.wrl b1 hb1
      rw [hk1] at hk2; cases hk2
      exact H.inj b1 b k1 k' l1 l hk1 hk hl1 hl ho (fun e => hn (e ▸ hb1))
  · intro b g l hl
    rcases E.new _ _ _ hl with h1 | ⟨k', h1, h2, h3, _⟩
    · obtain ⟨h2, k, h3, h4⟩ := H.dom _ _ _ h1
      obtain ⟨k', h5, h6, _⟩ := E.gen b k h3
      exact ⟨Nat.lt_of_lt_of_le h2 E.misc.size, k', h5, by omega⟩
    · exact ⟨h3, k', h1, h2⟩
  · intro b b' k k' l l' hk hk' hl hl' ho hne
    rcases hA b with hb | hb <;> rcases hA b' with hb' | hb'
    · exact E.inj b b' k k' l l' hk hk' hb hb' hl hl' hne
    · exact cross b b' k k' l l' hk hk' hl hl' hb hb'
    · exact fun e => cross b' b k' k l' l hk' hk hl' hl hb' hb e.symm
    · obtain ⟨h1, h2⟩ := E.loc_old H hb.1 hb.2 hk hl
      obtain ⟨h3, h4⟩ := E.loc_old H hb'.1 hb'.2 hk' hl'
      exact H.inj b b' k k' l l' h1 h3 h2 h4 ho hne

theorem Ext.trans (H : HRel P B ι h w) {ι2 : Emb} {h2 : List ABlk} {w2 : World} {r2 W : List Nat} (E : Ext P B ι h w wr ι' h' w') (F : Ext P B ι' h' w' r2 ι2 h2 w2)
    (hW : ∀ b, b ∈ W ↔ (b ∈ wr ∨ (b ∈ r2 ∧ b < h.length))) : Ext P B ι h w W ι2 h2 w2 := by
  have H1 := E.hrel H
  have H2 := F.hrel H1
  have hown : ∀ (b : Nat) (k' : ABlk), h2[b]? = some k' → (h.length ≤ b ∨ b ∈ W) → own k' = true := by
    intro b k2 hk2 hb
    by_cases h1 : h'.length ≤ b
    · exact F.newOwn b k2 hk2 h1
    · obtain ⟨k1, hk1⟩ : ∃ k1, h'[b]? = some k1 := ⟨h'[b]'(by omega), List.getElem?_eq_getElem (by omega)⟩
      obtain ⟨k3, hk3, _, ho⟩ := F.gen b k1 hk1
      rw [hk2] at hk3; cases hk3
      rw [ho]
      rcases hb with hb | hb
      · exact E.newOwn b k1 hk1 hb
      · rcases (hW b).1 hb with h3 | ⟨h3, _⟩
        · exact E.own_of hk1 (.inr h3)
        · obtain ⟨k4, hk4, ho4⟩ := F.wrl b h3
          rw [hk1] at hk4; cases hk4
          exact ho4
  refine ⟨E.misc.trans F.misc, E.sub.trans F.sub, Nat.le_trans E.len F.len, ?_, ?_, ?_, ?_, fun b hb => F.dk b (E.dk b hb), ?_, ?_, ?_, ?_, ?_⟩
  · intro b hb hn
    have h1 : b ∉ wr := fun e => hn ((hW b).2 (.inl e))
    have h3 : b ∉ r2 := fun e => hn ((hW b).2 (.inr ⟨e, hb⟩))
    rw [F.keep b (Nat.lt_of_lt_of_le hb E.len) h3, E.keep b hb h1]
  · intro b k hk
    obtain ⟨k1, h1, g1, o1⟩ := E.gen b k hk
    obtain ⟨k2, h3, g2, o2⟩ := F.gen b k1 h1
    exact ⟨k2, h3, Nat.le_trans g1 g2, o2.trans o1⟩
  · intro b hb
    rcases (hW b).1 hb with h1 | ⟨h1, hlt⟩
    · exact E.wrl b h1
    · obtain ⟨k1, hk1, ho⟩ := F.wrl b h1
      obtain ⟨k, hk⟩ : ∃ k, h[b]? = some k := ⟨h[b]'hlt, List.getElem?_eq_getElem hlt⟩
      obtain ⟨k1', hk1', _, ho'⟩ := E.gen b k hk
      rw [hk1] at hk1'; cases hk1'
      exact ⟨k, hk, by rw [← ho']; exact ho⟩
  · intro b hb
    rcases (hW b).1 hb with h1 | ⟨h1, hlt⟩
    · exact E.wrd b h1
    · by_cases hbw : b ∈ wr
      · exact E.wrd b hbw
      · obtain ⟨k1, l, hk1, hl⟩ := F.wrd b h1
        obtain ⟨hk, hl'⟩ := E.loc_old H hlt hbw hk1 hl
        exact ⟨k1, l, hk, hl'⟩
  · intro b g l hl
    rcases F.new _ _ _ hl with h1 | ⟨k2, hk2, hg, hc, hor⟩
    · rcases E.new _ _ _ h1 with h3 | ⟨k1, hk1, hg, hc, hor⟩
      · exact .inl h3
      · obtain ⟨k2, hk2, hg2, _⟩ := F.gen b k1 hk1
        refine .inr ⟨k2, hk2, Nat.le_trans hg hg2, Nat.lt_of_lt_of_le hc F.misc.size, ?_⟩
        rcases hor with hor | ⟨hb, hor⟩
        · exact .inl hor
        · exact .inr ⟨(hW b).2 (.inl hb), hor⟩
    · refine .inr ⟨k2, hk2, hg, hc, ?_⟩
      rcases hor with ⟨h3, h4⟩ | ⟨hb, k1, hk1, hlt, hor⟩
      · exact .inl ⟨Nat.le_trans E.len h3, Nat.le_trans E.misc.size h4⟩
      · by_cases hbl : h.length ≤ b
        · refine .inl ⟨hbl, ?_⟩
          rcases hor with hor | ⟨l0, h5, h6⟩
          · exact Nat.le_trans E.misc.size hor
          · rw [← h6]; exact E.loc_new H hbl h5
        · obtain ⟨k, hk⟩ : ∃ k, h[b]? = some k := ⟨h[b]'(by omega), List.getElem?_eq_getElem (by omega)⟩
          obtain ⟨k1', hk1', hgk, _⟩ := E.gen b k hk
          rw [hk1] at hk1'; cases hk1'
          refine .inr ⟨(hW b).2 (.inr ⟨hb, by omega⟩), k, hk, by omega, ?_⟩
          rcases hor with hor | ⟨l0, h5, h6⟩
          · exact .inl (Nat.le_trans E.misc.size hor)
          · rcases E.loc_wr H hk hk1 h5 with h7 | ⟨l1, h7, h8⟩
            · exact .inl (by rw [← h6]; exact h7)
            · exact .inr ⟨l1, h7, h8.trans h6⟩
  · intro b k2 hk2 _
    exact H2.blk b k2 hk2
  · intro b b' k k' l l' hk hk' hb hb' hl hl' hne
    exact H2.inj b b' k k' l l' hk hk' hl hl' (hown b k hk hb) hne
  · intro b k2 hk2 hb
    exact hown b k2 hk2 (.inl hb)
  · intro c hc hn
    have h1 : w'.heap[c]? = w.heap[c]? := E.frame c hc fun b k l hb hk hl => hn b k l ((hW b).2 (.inl hb)) hk hl
    rw [← h1]
    refine F.frame c (Nat.lt_of_lt_of_le hc E.misc.size) fun b k1 l hb hk1 hl => ?_
    by_cases hbl : h.length ≤ b
    · have := E.loc_new H hbl hl
      omega
    · obtain ⟨k, hk⟩ : ∃ k, h[b]? = some k := ⟨h[b]'(by omega), List.getElem?_eq_getElem (by omega)⟩
      rcases E.loc_wr H hk hk1 hl with h7 | ⟨l1, h7, h8⟩
      · omega
      · rw [← h8]
        exact hn b k l1 ((hW b).2 (.inr ⟨hb, by omega⟩)) hk h7

/-- Nothing has turned but counts. -/
theorem Ext.same (hm : Misc w w') (hw : ∀ c, c < w.heap.size → w'.heap[c]? = w.heap[c]?) : Ext P B ι h w [] ι h w' := by
  refine ⟨hm, Sub.refl _, Nat.le_refl _, fun _ _ _ => rfl, fun b k hk => ⟨k, hk, Nat.le_refl _, rfl⟩, fun b hb => by simp at hb, fun b hb => by simp at hb, fun _ h => h, fun b g l hl => .inl hl, ?_, ?_, ?_, fun c hc _ => hw c hc⟩
  · intro b k' hk' hb
    have := lt_of_get hk'
    rcases hb with hb | hb
    · omega
    · simp at hb
  · intro b b' k k' l l' hk hk' hb hb' hl hl' hne
    have := lt_of_get hk
    rcases hb with hb | hb
    · omega
    · simp at hb
  · intro b k' hk' hb
    have := lt_of_get hk'
    omega

def upd (ι : Emb) (b g : Nat) (l : Loc) : Emb := fun b' g' => if b' = b ∧ g' = g then some l else ι b' g'
theorem upd_same (ι : Emb) (b g : Nat) (l : Loc) : upd ι b g l b g = some l := by simp [upd]
theorem upd_sub {ι : Emb} {b g : Nat} {l : Loc} (hn : ι b g = none) : Sub ι (upd ι b g l) := by
  intro b' g' l' h
  simp only [upd]
  split
  · rename_i e
    obtain ⟨rfl, rfl⟩ := e
    rw [hn] at h; cases h
  · exact h
theorem upd_inv {ι : Emb} {b g b' g' : Nat} {l l' : Loc} (h : upd ι b g l b' g' = some l') : (b' = b ∧ g' = g ∧ l' = l) ∨ ι b' g' = some l' := by
  simp only [upd] at h
  split at h
  · rename_i e
    cases h
    exact .inl ⟨e.1, e.2, rfl⟩
  · exact .inr h

/-- A new block. -/
theorem Ext.push {k : ABlk} {l : Loc} (hn : ι h.length (bgen k) = none) (hm : Misc w w') (hlc : w.heap.size ≤ l.c) (hl' : l.c < w'.heap.size)
    (hw : ∀ c, c < w.heap.size → w'.heap[c]? = w.heap[c]?) (ho : own k = true)
    (hb : BRel P B (upd ι h.length (bgen k) l) w' h.length k) : Ext P B ι h w [] (upd ι h.length (bgen k) l) (h ++ [k]) w' := by
  have hget : ∀ {b : Nat} {k' : ABlk}, (h ++ [k])[b]? = some k' → h.length ≤ b → b = h.length ∧ k' = k := by
    intro b k' hk' hle
    have := lt_of_get hk'
    simp at this
    have e : b = h.length := by omega
    subst e
    simp at hk'
    exact ⟨rfl, hk'.symm⟩
  refine ⟨hm, upd_sub hn, by simp, ?_, ?_, fun b hb => by simp at hb, fun b hb => by simp at hb, fun b hb => by rw [List.getElem?_append_left (lt_of_get hb)]; exact hb, ?_, ?_, ?_, ?_, fun c hc _ => hw c hc⟩
  · intro b hlt _
    rw [List.getElem?_append_left hlt]
  · intro b k0 hk0
    exact ⟨k0, by rw [List.getElem?_append_left (lt_of_get hk0)]; exact hk0, Nat.le_refl _, rfl⟩
  · intro b g l1 hl1
    rcases upd_inv hl1 with ⟨rfl, rfl, rfl⟩ | h1
    · exact .inr ⟨k, by simp, Nat.le_refl _, hl', .inl ⟨Nat.le_refl _, hlc⟩⟩
    · exact .inl h1
  · intro b k' hk' hor
    rcases hor with hor | hor
    · obtain ⟨rfl, rfl⟩ := hget hk' hor
      exact hb
    · simp at hor
  · intro b b' k1 k2 l1 l2 hk1 hk2 hb1 hb2 _ _ hne
    rcases hb1 with hb1 | hb1
    · rcases hb2 with hb2 | hb2
      · exact absurd ((hget hk1 hb1).1.trans (hget hk2 hb2).1.symm) hne
      · simp at hb2
    · simp at hb1
  · intro b k' hk' hle
    obtain ⟨rfl, rfl⟩ := hget hk' hle
    exact ho

/-- A block of one's own is written; its place stays. -/
theorem Ext.write {b : Nat} {k k' : ABlk} {l : Loc} (hk : h[b]? = some k) (hg : bgen k' = bgen k) (ho : own k = true) (ho' : own k' = true) (hl : ι b (bgen k) = some l) (hm : Misc w w')
    (hw : ∀ c, c ≠ l.c → c < w.heap.size → w'.heap[c]? = w.heap[c]?) (hb : BRel P B ι w' b k') (hnd : k ≠ .defr := by simp) : Ext P B ι h w [b] ι (h.set b k') w' := by
  have hlt := lt_of_get hk
  have hget : ∀ {b1 : Nat} {k1 : ABlk}, (h.set b k')[b1]? = some k1 → (h.length ≤ b1 ∨ b1 ∈ [b]) → b1 = b ∧ k1 = k' := by
    intro b1 k1 hk1 hor
    have hlt1 := lt_of_get hk1
    simp at hlt1
    have e : b1 = b := by
      rcases hor with hor | hor
      · omega
      · simpa using hor
    subst e
    rw [List.getElem?_set_self hlt] at hk1
    cases hk1
    exact ⟨rfl, rfl⟩
  refine ⟨hm, Sub.refl _, by simp, ?_, ?_, ?_, fun b1 hb1 => ⟨k, l, by simp at hb1; subst hb1; exact hk, by simp at hb1; subst hb1; exact hl⟩, fun b1 hb1 => by rw [List.getElem?_set_ne (fun e => hnd (by subst e; rw [hk] at hb1; cases hb1; rfl))]; exact hb1, fun b g l hl => .inl hl, ?_, ?_, ?_, ?_⟩
  · intro b1 hb1 hn
    rw [List.getElem?_set_ne (fun e => hn (by simp [e]))]
  · intro b1 k1 hk1
    by_cases e : b1 = b
    · subst e
      rw [hk] at hk1; cases hk1
      exact ⟨k', by rw [List.getElem?_set_self hlt], by omega, by rw [ho, ho']⟩
    · exact ⟨k1, by rw [List.getElem?_set_ne (fun e' => e e'.symm)]; exact hk1, Nat.le_refl _, rfl⟩
  · intro b1 hb1
    simp at hb1; subst hb1
    exact ⟨k, hk, ho⟩
  · intro b1 k1 hk1 hor
    obtain ⟨rfl, rfl⟩ := hget hk1 hor
    exact hb
  · intro b1 b2 k1 k2 l1 l2 hk1 hk2 hb1 hb2 _ _ hne
    exact absurd ((hget hk1 hb1).1.trans (hget hk2 hb2).1.symm) hne
  · intro b1 k1 hk1 hle
    have := lt_of_get hk1
    simp at this
    omega
  · intro c hc hn
    refine hw c (fun e => ?_) hc
    exact hn b k l (by simp) hk hl e.symm

/-- A row grows, where it lies or at a new place. -/
theorem Ext.grow {b : Nat} {k k' : ABlk} {l l' : Loc} (hk : h[b]? = some k) (hg : bgen k < bgen k') (ho : own k = true) (ho' : own k' = true) (hl : ι b (bgen k) = some l) (hn : ι b (bgen k') = none)
    (hm : Misc w w') (hl' : l'.c < w'.heap.size) (hp : w.heap.size ≤ l'.c ∨ l'.c = l.c)
    (hw : ∀ c, c ≠ l.c → c < w.heap.size → w'.heap[c]? = w.heap[c]?) (hb : BRel P B (upd ι b (bgen k') l') w' b k') (hnd : k ≠ .defr := by simp) : Ext P B ι h w [b] (upd ι b (bgen k') l') (h.set b k') w' := by
  have hlt := lt_of_get hk
  have hget : ∀ {b1 : Nat} {k1 : ABlk}, (h.set b k')[b1]? = some k1 → (h.length ≤ b1 ∨ b1 ∈ [b]) → b1 = b ∧ k1 = k' := by
    intro b1 k1 hk1 hor
    have hlt1 := lt_of_get hk1
    simp at hlt1
    have e : b1 = b := by
      rcases hor with hor | hor
      · omega
      · simpa using hor
    subst e
    rw [List.getElem?_set_self hlt] at hk1
    cases hk1
    exact ⟨rfl, rfl⟩
  refine ⟨hm, upd_sub hn, by simp, ?_, ?_, ?_, fun b1 hb1 => ⟨k, l, by simp at hb1; subst hb1; exact hk, by simp at hb1; subst hb1; exact hl⟩, fun b1 hb1 => by rw [List.getElem?_set_ne (fun e => hnd (by subst e; rw [hk] at hb1; cases hb1; rfl))]; exact hb1, ?_, ?_, ?_, ?_, ?_⟩
  · intro b1 hb1 hn
    rw [List.getElem?_set_ne (fun e => hn (by simp [e]))]
  · intro b1 k1 hk1
    by_cases e : b1 = b
    · subst e
      rw [hk] at hk1; cases hk1
      exact ⟨k', by rw [List.getElem?_set_self hlt], by omega, by rw [ho, ho']⟩
    · exact ⟨k1, by rw [List.getElem?_set_ne (fun e' => e e'.symm)]; exact hk1, Nat.le_refl _, rfl⟩
  · intro b1 hb1
    simp at hb1; subst hb1
    exact ⟨k, hk, ho⟩
  · intro b1 g1 l1 hl1
    rcases upd_inv hl1 with ⟨rfl, rfl, rfl⟩ | h1
    · refine .inr ⟨k', by rw [List.getElem?_set_self hlt], Nat.le_refl _, hl', .inr ⟨by simp, k, hk, hg, ?_⟩⟩
      rcases hp with hp | hp
      · exact .inl hp
      · exact .inr ⟨l, hl, hp.symm⟩
    · exact .inl h1
  · intro b1 k1 hk1 hor
    obtain ⟨rfl, rfl⟩ := hget hk1 hor
    exact hb
  · intro b1 b2 k1 k2 l1 l2 hk1 hk2 hb1 hb2 _ _ hne
    exact absurd ((hget hk1 hb1).1.trans (hget hk2 hb2).1.symm) hne
  · intro b1 k1 hk1 hle
    have := lt_of_get hk1
    simp at this
    omega
  · intro c hc hn
    refine hw c (fun e => ?_) hc
    exact hn b k l (by simp) hk hl e.symm
end

end Go.Proofs.Ytocoadpepofbbaa.AM

/-
  THE OPERATIONS that neither append nor copy nor ask maps nor call: what the abstract machine says of them the model does.
-/
set_option linter.unusedVariables false
set_option linter.unusedSimpArgs false
namespace Go.Proofs.Ytocoadpepofbbaa.AM
open Go

/-- The model's operation comes to a value (or to nothing, which is 'undef') and a world. -/
def Runs (P : Program) (o : Oper) (a : Act) (w : World) (v : Value) (w' : World) : Prop :=
  ∃ nx, (execOp a.eval o).run P w = .ok nx w' ∧ (nx = .value v ∨ (nx = .skip ∧ v = undef))

/-- What is shown of an operation. -/
def OpOk (P : Program) (B : Nat) (ι : Emb) (h : List ABlk) (w : World) (o : Oper) (a : Act) (r : OpR) : Prop :=
  ∃ ι' v w', Runs P o a w v w' ∧ VRel ι' r.v v ∧ Ext P B ι h w r.wr ι' r.h w'

theorem OpOk.pure {P : Program} {B : Nat} {ι : Emb} {h : List ABlk} {w : World} {o : Oper} {a : Act} {v : AV} {x : Value} {lk : Option (Nat × Nat)} {acc : Option (List Nat)}
    (hr : (execOp a.eval o).run P w = .ok (.value x) w) (hv : VRel ι v x) : OpOk P B ι h w o a ⟨v, h, [], lk, acc⟩ :=
  ⟨ι, x, w, ⟨_, hr, .inl rfl⟩, hv, Ext.same (Misc.refl w) (fun _ _ => rfl)⟩

theorem misc_alloc (w : World) (o : Obj) : Misc w (w.alloc o) := ⟨rfl, rfl, rfl, by simp⟩
theorem heap_alloc_lt (w : World) (o : Obj) {c : Nat} (hc : c < w.heap.size) : (w.alloc o).heap[c]? = w.heap[c]? := by
  simp only [World.alloc, Array.getElem?_push]
  rw [if_neg (by omega)]
theorem heap_alloc_at (w : World) (o : Obj) : (w.alloc o).heap[w.heap.size]? = some o := by
  show (w.heap.push o)[w.heap.size]? = _
  simp

/-- A new row of cells. -/
theorem ext_row {P : Program} {B : Nat} {ι : Emb} {h : List ABlk} {w : World} (hn : ∀ g, ι h.length g = none) (hB : B ≤ w.heap.size) {cs : List AV} {vs : Array Value} {e : TypeId}
    {g : Nat} (hg : g = cs.length) {w' : World} (hw' : w' = w.alloc (.cells vs e)) (hv : ∀ ι', Sub ι ι' → RowR ι' cs (fun j => vs[j]?)) :
    Ext P B ι h w [] (upd ι h.length g ⟨w.heap.size, 0, vs.size⟩) (h ++ [.row false cs]) w' := by
  subst hg hw'
  refine Ext.push (k := .row false cs) (l := ⟨w.heap.size, 0, vs.size⟩) (hn _) (misc_alloc _ _) (Nat.le_refl _) (by simp) (fun c hc => heap_alloc_lt _ _ hc) rfl ?_
  intro l hl
  rw [show bgen (.row false cs) = cs.length from rfl, upd_same] at hl
  cases hl
  exact ⟨rfl, hB, vs, e, heap_alloc_at _ _, rfl, hv _ (upd_sub (hn _))⟩

theorem VRelL.rowR {ι : Emb} {cs : List AV} {vs : Array Value} (h : VRelL ι cs vs.toList) : RowR ι cs (fun j => vs[j]?) := by
  intro j v hv
  obtain ⟨x, h1, h2⟩ := h.get hv
  exact ⟨x, by simpa using h1, h2⟩

theorem cells_rel {ι : Emb} {v : AV} {x : Value} (h : VRel ι v x) : VRelL ι v.cells x.cells.toList := by
  cases h with
  | agg h => exact h
  | _ => exact .cons (by constructor <;> assumption) .nil

/-! ### reading -/
theorem add_plain (c o n : Nat) : (⟨c, o, none⟩ : Addr).add n = ⟨c, o + n, none⟩ := by unfold Addr.add; split <;> simp_all

section
variable {P : Program} {B : Nat} {ι : Emb} {h : List ABlk} {w : World}

/-- The cells of a row that may be read. -/
theorem row_cells {p : Ad} {l : Loc} {ro : Bool} {cs : List AV} (hb : h[p.b]? = some (.row ro cs)) (hg : cs.length = p.g) (hl : ι p.b p.g = some l) (hblk : BRel P B ι w p.b (.row ro cs)) :
    ∀ (j : Nat) (v : AV), cs[j]? = some v → ∃ x, w.cell? ⟨l.c, l.o + j, none⟩ = some x ∧ VRel ι v x := by
  intro j v hv
  cases ro with
  | true =>
    obtain ⟨x, h1, h2⟩ := hblk l (by rw [hg]; exact hl) j v hv
    exact ⟨x, h1, h2⟩
  | false =>
    obtain ⟨h0, _, c, e, h3, _, h4⟩ := hblk l (by rw [hg]; exact hl)
    obtain ⟨x, h1, h2⟩ := h4 j v hv
    refine ⟨x, ?_, h2⟩
    rw [h0]
    simp only [World.cell?, h3]
    simpa using h1

theorem rd1_sound {p : Ad} {l : Loc} {v : AV} (hr : rd1 h p = some v) (hl : ι p.b p.g = some l) (hblk : ∀ k, h[p.b]? = some k → BRel P B ι w p.b k) :
    ∃ x, w.cell? ⟨l.c, l.o + p.o, none⟩ = some x ∧ VRel ι v x := by
  unfold rd1 at hr
  split at hr
  · rename_i ro cs hb
    split at hr
    · rename_i hg
      exact row_cells hb hg hl (hblk _ hb) _ _ hr
    · cases hr
  · cases hr

theorem rdN_sound {p : Ad} {l : Loc} {n : Nat} {cs : List AV} (hr : rdN h p n = some cs) (hl : ι p.b p.g = some l) (hblk : ∀ k, h[p.b]? = some k → BRel P B ι w p.b k) :
    cs.length = n ∧ ∃ vs : List Value, VRelL ι cs vs ∧ ∀ (j : Nat) (x : Value), vs[j]? = some x → w.cell? ((⟨l.c, l.o + p.o, none⟩ : Addr).add j) = some x := by
  unfold rdN at hr
  split at hr
  · rename_i ro row hb
    split at hr
    · rename_i hg
      cases hr
      have hlen : ((row.drop p.o).take n).length = n := by simp; omega
      refine ⟨hlen, ((List.range n).map fun j => (w.cell? ⟨l.c, l.o + p.o + j, none⟩).getD undef), ?_, ?_⟩
      · refine VRelL.of_get (by simp; omega) fun j v hv => ?_
        have hj : j < n := by have := lt_of_get hv; omega
        have hv' : row[p.o + j]? = some v := by
          rw [List.getElem?_take_of_lt hj, List.getElem?_drop] at hv
          exact hv
        obtain ⟨x, h1, h2⟩ := row_cells hb hg.1 hl (hblk _ hb) _ _ hv'
        refine ⟨x, ?_, h2⟩
        rw [List.getElem?_map, List.getElem?_range hj]
        simp only [Option.map_some]
        rw [Nat.add_assoc, h1]
        rfl
      · intro j x hx
        have hj : j < n := by have := lt_of_get hx; simpa using this
        rw [List.getElem?_map, List.getElem?_range hj] at hx
        simp only [Option.map_some, Option.some.injEq] at hx
        obtain ⟨v, hv⟩ : ∃ v, row[p.o + j]? = some v := ⟨row[p.o + j]'(by omega), List.getElem?_eq_getElem (by omega)⟩
        obtain ⟨y, h1, h2⟩ := row_cells hb hg.1 hl (hblk _ hb) _ _ hv
        rw [add_plain, ← hx, Nat.add_assoc, h1]
        rfl
    · cases hr
  · cases hr

theorem run_isAgg {t : TypeId} {d : TypeDesc} (hd : P.underlying t = some d) (w : World) : (isAgg t).run P w = .ok (isAggD d) w := by
  unfold isAgg
  simp only [Sem.run_bind, run_underlying hd, Result.andThen_ok]
  cases d <;> rfl
theorem run_sizeOf {t : TypeId} {i : TypeInfo} (hi : P.info? t = some i) (w : World) : (sizeOf t).run P w = .ok i.size w := by simp [sizeOf, typeInfo, hi]
theorem run_zeroValue {t : TypeId} {i : TypeInfo} {z : Value} (hi : P.info? t = some i) (hz : i.zero = some z) (w : World) : (zeroValue t).run P w = .ok z w := by simp [zeroValue, typeInfo, hi, hz]

theorem wayT_spec {t : TypeId} {n : Option Nat} (hw : wayT P t = some n) : ∃ d i, P.underlying t = some d ∧ P.info? t = some i ∧ n = if isAggD d then some i.size else none := by
  unfold wayT at hw
  split at hw
  · rename_i d i hd hi
    cases hw
    exact ⟨d, i, hd, hi, rfl⟩
  · cases hw
theorem sizeT_spec {t : TypeId} {n : Nat} (hs : sizeT P t = some n) : ∃ i, P.info? t = some i ∧ i.size = n := by
  unfold sizeT at hs
  simpa [Option.map_eq_some_iff] using hs
theorem zeroT_spec {t : TypeId} {zs : List AV} (hs : zeroT P t = some zs) : ∃ i z, P.info? t = some i ∧ i.zero = some z ∧ ∀ ι : Emb, VRelL ι zs z.cells.toList := by
  unfold zeroT at hs
  split at hs
  · rename_i i hi
    split at hs
    · rename_i z hz
      exact ⟨i, z, hi, hz, fun ι => toAVL_sound ι _ hs⟩
    · cases hs
  · cases hs

theorem part_sound {t : TypeId} {n : Option Nat} (hw : wayT P t = some n) {off : Nat} {cs : List AV} {vs : List Value} (hc : VRelL ι cs vs) {v : AV} (hv : aPart n off cs = some v) (w : World) :
    ∃ x, (part t vs.toArray off).run P w = .ok x w ∧ VRel ι v x := by
  obtain ⟨d, i, hd, hi, rfl⟩ := wayT_spec hw
  unfold part
  simp only [Sem.run_bind, run_isAgg hd, Result.andThen_ok]
  cases hag : isAggD d
  · simp only [hag, Bool.false_eq_true, if_false, aPart] at hv ⊢
    obtain ⟨x, h1, h2⟩ := hc.get hv
    refine ⟨x, ?_, h2⟩
    simp [h1]
  · simp only [hag, if_true, aPart] at hv ⊢
    cases hv
    refine ⟨.agg (vs.toArray.extract off (off + i.size)), by simp [run_sizeOf hi], ?_⟩
    have : vs.toArray.extract off (off + i.size) = ((vs.drop off).take i.size).toArray := by
      apply Array.ext'
      simp [List.extract_eq_take_drop]
    rw [this]
    exact .agg ((hc.drop off).take i.size)

/-! ### writing a row -/
theorem wrN_length : ∀ (vs cs : List AV) (o : Nat), (wrN cs o vs).length = cs.length
  | [], cs, o => rfl
  | v :: vs, cs, o => by simp [wrN, wrN_length vs]
theorem wrN_get : ∀ (vs cs : List AV) (o j : Nat), o + vs.length ≤ cs.length → (wrN cs o vs)[j]? = if o ≤ j ∧ j < o + vs.length then vs[j - o]? else cs[j]?
  | [], cs, o, j, _ => by simp [wrN]; intro h1 h2; omega
  | v :: vs, cs, o, j, hl => by
    simp only [List.length_cons] at hl
    rw [wrN, wrN_get vs (cs.set o v) (o + 1) j (by simp; omega)]
    simp only [List.length_cons]
    by_cases h1 : j = o
    · subst h1
      rw [if_neg (by omega), if_pos (by omega)]
      simp
      rw [List.getElem?_set_self (by omega)]
    · by_cases h2 : o ≤ j ∧ j < o + (vs.length + 1)
      · rw [if_pos (by omega), if_pos h2]
        rw [show j - o = (j - (o + 1)) + 1 from by omega]
        simp
      · rw [if_neg (by omega), if_neg h2, List.getElem?_set_ne (by omega)]
theorem one_rel {v : AV} {x : Value} (hv : VRel ι v x) (h1 : v.one = true) : x.oneCell' = true := by
  cases hv <;> first | rfl | (simp [AV.one] at h1)
theorem ones_rel : ∀ {vs : List AV} {xs : List Value}, VRelL ι vs xs → vs.all AV.one = true → ∀ x ∈ xs, x.oneCell' = true
  | _, _, .nil, _, x, hx => by simp at hx
  | _, _, .cons hv t, h1, x, hx => by
    simp only [List.all_cons, Bool.and_eq_true] at h1
    rcases List.mem_cons.1 hx with rfl | hx
    · exact one_rel hv h1.1
    · exact ones_rel t h1.2 x hx

/-- The row behind a store of cells that follow. -/
theorem rowR_put {cs vs : List AV} {c : Array Value} {xs : List Value} {o : Nat} (hc : RowR ι cs (fun j => c[j]?)) (hv : VRelL ι vs xs) (hl : o + vs.length ≤ cs.length) :
    RowR ι (wrN cs o vs) (fun j => (c.toList.take o ++ xs ++ c.toList.drop (o + xs.length)).toArray[j]?) := by
  intro j v hj
  rw [wrN_get vs cs o j hl] at hj
  have hlen := hv.length
  have hco : o ≤ c.size := by
    rcases Nat.eq_zero_or_pos o with h0 | h0
    · omega
    · obtain ⟨u, hu⟩ : ∃ u, cs[o - 1]? = some u := ⟨cs[o - 1]'(by omega), List.getElem?_eq_getElem (by omega)⟩
      obtain ⟨x, hx, _⟩ := hc _ _ hu
      have := (Array.getElem?_eq_some_iff.1 hx).1
      omega
  have htl : (c.toList.take o).length = o := by simp; omega
  split at hj
  · rename_i hb
    obtain ⟨x, h1, h2⟩ := hv.get hj
    refine ⟨x, ?_, h2⟩
    simp only [List.getElem?_toArray]
    rw [List.getElem?_append_left (by simp; omega), List.getElem?_append_right (by omega), htl]
    exact h1
  · rename_i hb
    obtain ⟨x, h1, h2⟩ := hc _ _ hj
    refine ⟨x, ?_, h2⟩
    simp only [List.getElem?_toArray]
    by_cases hlt : j < o
    · rw [List.getElem?_append_left (by simp; omega), List.getElem?_append_left (by omega), List.getElem?_take_of_lt hlt]
      simpa using h1
    · rw [List.getElem?_append_right (by simp; omega), List.getElem?_drop]
      simp only [List.length_append, htl]
      rw [show o + xs.length + (j - (o + xs.length)) = j from by omega]
      simpa using h1
theorem size_put {c : Array Value} {xs : List Value} {o : Nat} (hl : o + xs.length ≤ c.size) : (c.toList.take o ++ xs ++ c.toList.drop (o + xs.length)).toArray.size = c.size := by simp; omega
theorem rowR_size {cs : List AV} {c : Array Value} (hc : RowR ι cs (fun j => c[j]?)) : cs.length ≤ c.size := by
  rcases Nat.eq_zero_or_pos cs.length with h0 | h0
  · omega
  · obtain ⟨u, hu⟩ : ∃ u, cs[cs.length - 1]? = some u := ⟨cs[cs.length - 1]'(by omega), List.getElem?_eq_getElem (by omega)⟩
    obtain ⟨x, hx, _⟩ := hc _ _ hu
    have := (Array.getElem?_eq_some_iff.1 hx).1
    omega

theorem misc_setRow (w : World) (g : Nat) (cs : Array Value) : Misc w (w.setRow g cs) := ⟨rfl, rfl, rfl, by simp⟩

/-- Cells that follow are stored into a row of one's own. -/
theorem store_row {b : Nat} {cs vs : List AV} {xs : List Value} {o : Nat} {l : Loc} (hb : h[b]? = some (.row false cs)) (hl : ι b cs.length = some l) (hblk : BRel P B ι w b (.row false cs))
    (hv : VRelL ι vs xs) (h1 : vs.all AV.one = true) (hfit : o + vs.length ≤ cs.length) :
    ∃ w', (storeCells ⟨l.c, o, none⟩ xs).run P w = .ok () w' ∧ Ext P B ι h w [b] ι (h.set b (.row false (wrN cs o vs))) w' := by
  obtain ⟨h0, hB, c, e, h3, h4, h5⟩ := hblk l hl
  have hsz := rowR_size h5
  have hlen := hv.length
  refine ⟨_, run_storeCells_at P l.c o e xs 0 c w h3 (by omega) (ones_rel hv h1), ?_⟩
  simp only [Nat.add_zero]
  refine Ext.write (k := .row false cs) (l := l) hb (wrN_length vs cs o) rfl rfl hl (misc_setRow _ _ _) (fun c' hne hc' => setRow_other _ _ _ _ hne) ?_
  intro l' hl'
  rw [wrN_length] at hl'
  rw [hl] at hl'; cases hl'
  exact ⟨h0, hB, _, e, setRow_heap _ _ _ _ _ _ h3, by rw [size_put (by omega)]; exact h4, rowR_put h5 hv hfit⟩
end

end Go.Proofs.Ytocoadpepofbbaa.AM
