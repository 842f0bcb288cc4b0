/-
  RULES FOR THE WEAKEST PRECONDITIONS: loops, and rewriting laws that step through code.
-/
import Derived.Test.YtocoadpepofbbaaG9
import Derived.Laws.BitsLemmas
set_option linter.unusedVariables false
set_option linter.unusedSimpArgs false
namespace Go.Proofs.Ytocoadpepofbbaa.AM
open Go
variable {pr : FuncId → Option AFunc} {base : Nat} {inR : Bool}

/-! ### monotony -/
theorem wpPlain_mono {o : AOp} {e : List AV} {h : List ABlk} {k k' : OpK} (hk : ∀ v h wr lk acc, k v h wr lk acc → k' v h wr lk acc) (hw : wpPlain o e h k) : wpPlain o e h k' := by
  unfold wpPlain at *
  cases hr : aOp (fun _ _ _ => none) e h o with
  | none => rw [hr] at hw; exact hw.elim
  | some r => rw [hr] at hw; exact hk _ _ _ _ _ hw
theorem wpOp_mono {o : AOp} {e : List AV} {h : List ABlk} {k k' : OpK} (hk : ∀ v h wr lk acc, k v h wr lk acc → k' v h wr lk acc) (hw : wpOp pr o e h k) : wpOp pr o e h k' := by
  unfold wpOp at *
  split at hw
  · obtain ⟨r, hr, hw⟩ := hw; exact ⟨r, hr, hk _ _ _ _ _ hw⟩
  · split at hw
    · obtain ⟨r, hr, hw⟩ := hw; exact ⟨r, hr, hk _ _ _ _ _ hw⟩
    · obtain ⟨r, hr, hw⟩ := hw; exact ⟨r, hr, hk _ _ _ _ _ hw⟩
    · exact hw.elim
  · exact wpPlain_mono hk hw
theorem wpStep_mono {o : AOper} {e : List AV} {h : List ABlk} {m : Mt} {k k' : List AV → List ABlk → Mt → FP → Prop} (hk : ∀ e h m f, k e h m f → k' e h m f) (hw : wpStep pr base o e h m k) : wpStep pr base o e h m k' := by
  unfold wpStep at *
  split at hw
  · exact wpOp_mono (fun _ _ _ _ _ h => hk _ _ _ _ h) hw
  · exact hk _ _ _ _ hw
theorem wpOps_mono {Q Q' : StK} (hk : ∀ e h m, Q e h m → Q' e h m) : ∀ {os : List AOper} {e : List AV} {h : List ABlk} {m : Mt}, wpOps pr base os e h m Q → wpOps pr base os e h m Q'
  | [], _, _, _, hw => hk _ _ _ hw
  | o :: os, _, _, _, hw => wpStep_mono (fun _ _ _ _ h => wpOps_mono hk h) hw
theorem wpOpsF_mono {Q Q' : List FP → StK} (hk : ∀ fs e h m, Q fs e h m → Q' fs e h m) : ∀ {os : List AOper} {fs : List FP} {e : List AV} {h : List ABlk} {m : Mt}, wpOpsF pr base os fs e h m Q → wpOpsF pr base os fs e h m Q'
  | [], _, _, _, _, hw => hk _ _ _ _ hw
  | o :: os, _, _, _, _, hw => wpStep_mono (fun _ _ _ _ h => wpOpsF_mono hk h) hw
theorem onSeq_mono {k k' : StK} {Q Q' : ExK} (h1 : ∀ e h m, k e h m → k' e h m) (h2 : ∀ x e h m, Q x e h m → Q' x e h m) : ∀ x e h m, onSeq k Q x e h m → onSeq k' Q' x e h m := by
  intro x e h m; cases x <;> simp only [onSeq] <;> first | exact h1 _ _ _ | exact h2 _ _ _ _
theorem itW_mono {w : List AV → List ABlk → Mt → ExK → Prop} (hw : ∀ (e : List AV) (h : List ABlk) (m : Mt) (Q Q' : ExK), (∀ x e h m, Q x e h m → Q' x e h m) → w e h m Q → w e h m Q') {Q Q' : ExK} (hk : ∀ x e h m, Q x e h m → Q' x e h m) :
    ∀ (n n' : Nat) (e : List AV) (h : List ABlk) (m : Mt), n ≤ n' → itW w Q n e h m → itW w Q' n' e h m
  | 0, _, _, _, _, _, h => h.elim
  | n + 1, 0, _, _, _, hle, _ => by omega
  | n + 1, n' + 1, _, _, _, hle, h => hw _ _ _ _ _ (onSeq_mono (fun _ _ _ => itW_mono hw hk n n' _ _ _ (by omega)) hk) h
theorem wp_mono : ∀ (c : ACode) {e : List AV} {h : List ABlk} {m : Mt} {Q Q' : ExK}, (∀ x e h m, Q x e h m → Q' x e h m) → wp pr base inR c e h m Q → wp pr base inR c e h m Q'
  | .skip, _, _, _, _, _, hk, hw => hk _ _ _ _ hw
  | .region ops chk draw, _, _, _, _, _, hk, hw => by
    simp only [wp] at *
    split at hw
    · rw [if_pos ‹_›]; exact wpOpsF_mono (fun _ _ _ _ h => ⟨h.1, hk _ _ _ _ h.2⟩) hw
    · rw [if_neg ‹_›]; exact wpOps_mono (fun _ _ _ h => hk _ _ _ _ h) hw
  | .seq a b, _, _, _, _, _, hk, hw => wp_mono a (onSeq_mono (fun _ _ _ h => wp_mono b hk h) hk) hw
  | .cond c t f, _, _, _, _, _, hk, hw => by
    simp only [wp] at *
    split at hw
    · exact wp_mono t hk hw
    · exact wp_mono f hk hw
    · exact hw.elim
  | .block id b, _, _, _, _, _, hk, hw => wp_mono b (by
      intro x e h m hq
      cases x with
      | exit i =>
        simp only [onBlk] at *
        split at hq
        · rw [if_pos ‹_›]; exact hk _ _ _ _ hq
        · rw [if_neg ‹_›]; exact hk _ _ _ _ hq
      | _ => exact hk _ _ _ _ hq) hw
  | .loop b, _, _, _, _, _, hk, hw => by
    obtain ⟨n, hn⟩ := hw
    exact ⟨n, itW_mono (w := wp pr base inR b) (fun _ _ _ _ _ hk h => wp_mono b hk h) hk n n _ _ _ (Nat.le_refl _) hn⟩
  | .exit id, _, _, _, _, _, hk, hw => hk _ _ _ _ hw
  | .ret, _, _, _, _, _, hk, hw => hk _ _ _ _ hw
  | .rangeF f ps a b, _, _, _, _, _, hk, hw => by
    obtain ⟨hr, hw⟩ := hw
    refine ⟨hr, ?_⟩
    split at hw
    · obtain ⟨r, he, hw⟩ := hw
      refine ⟨r, he, ?_⟩
      split at hw
      · exact ⟨hw.1, hk _ _ _ _ hw.2⟩
      · exact hw.elim
    · exact hw.elim

/-! ### control -/
def kSeq (pr : FuncId → Option AFunc) (base : Nat) (inR : Bool) (b : ACode) (Q : ExK) : StK := fun e h m => wp pr base inR b e h m Q
def kOps (pr : FuncId → Option AFunc) (base : Nat) (os : List AOper) (Q : StK) : List AV → List ABlk → Mt → FP → Prop := fun e h m _ => wpOps pr base os e h m Q
def kOpsF (pr : FuncId → Option AFunc) (base : Nat) (os : List AOper) (fs : List FP) (Q : List FP → StK) : List AV → List ABlk → Mt → FP → Prop := fun e h m f => wpOpsF pr base os (fs ++ [f]) e h m Q
def kStep (base : Nat) (e : List AV) (d : Option Nat) (m : Mt) (k : List AV → List ABlk → Mt → FP → Prop) : OpK := fun v h wr lk acc => k (setD e d v) h (mup base m wr lk h.length) ⟨wr, acc⟩
def kCond (pr : FuncId → Option AFunc) (base : Nat) (inR : Bool) (t f : ACode) (e : List AV) (h : List ABlk) (m : Mt) (Q : ExK) : AV → Prop
  | .bool b => (b = true → wp pr base inR t e h m Q) ∧ (b = false → wp pr base inR f e h m Q)
  | _ => False
def kFst (k : OpK) (r : Ret) : Prop := k r.v r.h r.wr r.lk none
def kChk (chk : List (Nat × Nat)) (Q : ExK) : List FP → StK := fun fs e h m => chkFP fs chk = true ∧ Q .normal e h m
def kQ (Q : ExK) : StK := fun e h m => Q .normal e h m

section
variable {e : List AV} {h : List ABlk} {m : Mt} {Q : ExK}
@[simp] theorem wp_skip : wp pr base inR .skip e h m Q = Q .normal e h m := (rfl)
@[simp] theorem wp_exit (i : Nat) : wp pr base inR (.exit i) e h m Q = Q (.exit i) e h m := (rfl)
@[simp] theorem wp_ret : wp pr base inR .ret e h m Q = Q .ret e h m := (rfl)
@[simp] theorem wp_seq (a b : ACode) : wp pr base inR (.seq a b) e h m Q = wp pr base inR a e h m (onSeq (kSeq pr base inR b Q) Q) := (rfl)
@[simp] theorem wp_block (i : Nat) (b : ACode) : wp pr base inR (.block i b) e h m Q = wp pr base inR b e h m (onBlk i Q) := (rfl)
@[simp] theorem wp_region (ops : List AOper) (d : Bool) : wp pr base inR (.region ops [] d) e h m Q = wpOps pr base ops e h m (kQ Q) := by
  simp [wp]; rfl
@[simp] theorem wp_regionF (ops : List AOper) (p : Nat × Nat) (ps : List (Nat × Nat)) : wp pr base inR (.region ops (p :: ps) true) e h m Q = wpOpsF pr base ops [] e h m (kChk (p :: ps) Q) := by
  simp [wp]; rfl
@[simp] theorem wp_cond (c : AOpd) (t f : ACode) : wp pr base inR (.cond c t f) e h m Q = kCond pr base inR t f e h m Q (av e c) := by
  simp only [wp]
  cases av e c with
  | bool b => cases b <;> simp [kCond]
  | _ => rfl
@[simp] theorem kSeq_ap (b : ACode) : kSeq pr base inR b Q e h m = wp pr base inR b e h m Q := (rfl)
@[simp] theorem kQ_ap : kQ Q e h m = Q .normal e h m := (rfl)
@[simp] theorem kChk_ap (chk : List (Nat × Nat)) (fs : List FP) : kChk chk Q fs e h m = (chkFP fs chk = true ∧ Q .normal e h m) := (rfl)
@[simp] theorem onSeq_normal (k : StK) : onSeq k Q .normal e h m = k e h m := (rfl)
@[simp] theorem onSeq_exit (k : StK) (i : Nat) : onSeq k Q (.exit i) e h m = Q (.exit i) e h m := (rfl)
@[simp] theorem onSeq_ret (k : StK) : onSeq k Q .ret e h m = Q .ret e h m := (rfl)
@[simp] theorem onBlk_normal (i : Nat) : onBlk i Q .normal e h m = Q .normal e h m := (rfl)
@[simp] theorem onBlk_ret (i : Nat) : onBlk i Q .ret e h m = Q .ret e h m := (rfl)
@[simp] theorem onBlk_exit (i j : Nat) : onBlk i Q (.exit j) e h m = if j = i then Q .normal e h m else Q (.exit j) e h m := (rfl)
@[simp 900] theorem kCond_bool (t f : ACode) (b : Bool) : kCond pr base inR t f e h m Q (.bool b) = ((b = true → wp pr base inR t e h m Q) ∧ (b = false → wp pr base inR f e h m Q)) := (rfl)
@[simp] theorem kCond_t (t f : ACode) : kCond pr base inR t f e h m Q (.bool true) = wp pr base inR t e h m Q := by simp [kCond]
@[simp] theorem kCond_f (t f : ACode) : kCond pr base inR t f e h m Q (.bool false) = wp pr base inR f e h m Q := by simp [kCond]
@[simp] theorem wpOps_nil (Q : StK) : wpOps pr base [] e h m Q = Q e h m := (rfl)
@[simp] theorem wpOps_cons (o : AOper) (os : List AOper) (Q : StK) : wpOps pr base (o :: os) e h m Q = wpStep pr base o e h m (kOps pr base os Q) := (rfl)
@[simp] theorem wpOpsF_nil (fs : List FP) (Q : List FP → StK) : wpOpsF pr base [] fs e h m Q = Q fs e h m := (rfl)
@[simp] theorem wpOpsF_cons (o : AOper) (os : List AOper) (fs : List FP) (Q : List FP → StK) : wpOpsF pr base (o :: os) fs e h m Q = wpStep pr base o e h m (kOpsF pr base os fs Q) := (rfl)
@[simp] theorem kOps_ap (os : List AOper) (Q : StK) (f : FP) : kOps pr base os Q e h m f = wpOps pr base os e h m Q := (rfl)
@[simp] theorem kOpsF_ap (os : List AOper) (fs : List FP) (Q : List FP → StK) (f : FP) : kOpsF pr base os fs Q e h m f = wpOpsF pr base os (fs ++ [f]) e h m Q := (rfl)
@[simp] theorem kStep_ap (e0 : List AV) (d : Option Nat) (m0 : Mt) (k : List AV → List ABlk → Mt → FP → Prop) (v : AV) (wr : List Nat) (lk : Option (Nat × Nat)) (acc : Option (List Nat)) :
    kStep base e0 d m0 k v h wr lk acc = k (setD e0 d v) h (mup base m0 wr lk h.length) ⟨wr, acc⟩ := (rfl)
@[simp] theorem wpStep_none (d : Option Nat) (o : AOp) (k : List AV → List ABlk → Mt → FP → Prop) : wpStep pr base ⟨d, o, none⟩ e h m k = wpOp pr o e h (kStep base e d m k) := (rfl)
def kG (pr : FuncId → Option AFunc) (base : Nat) (d : Option Nat) (o : AOp) (w : Bool) (k : List AV → List ABlk → Mt → FP → Prop) (e : List AV) (h : List ABlk) (m : Mt) : AV → Prop
  | .bool b => (b = w → wpOp pr o e h (kStep base e d m k)) ∧ (b = !w → k (setD e d undefA) h m ⟨[], some []⟩)
  | _ => k (setD e d undefA) h m ⟨[], some []⟩
section
variable {d : Option Nat} {o : AOp} {w : Bool} {k : List AV → List ABlk → Mt → FP → Prop}
@[simp 900] theorem kG_bool (b : Bool) : kG pr base d o w k e h m (.bool b) = ((b = w → wpOp pr o e h (kStep base e d m k)) ∧ (b = !w → k (setD e d undefA) h m ⟨[], some []⟩)) := (rfl)
@[simp] theorem kG_tt : kG pr base d o true k e h m (.bool true) = wpOp pr o e h (kStep base e d m k) := by simp [kG]
@[simp] theorem kG_ff : kG pr base d o false k e h m (.bool false) = wpOp pr o e h (kStep base e d m k) := by simp [kG]
@[simp] theorem kG_tf : kG pr base d o true k e h m (.bool false) = k (setD e d undefA) h m ⟨[], some []⟩ := by simp [kG]
@[simp] theorem kG_ft : kG pr base d o false k e h m (.bool true) = k (setD e d undefA) h m ⟨[], some []⟩ := by simp [kG]
@[simp] theorem kG_undef : kG pr base d o w k e h m undefA = k (setD e d undefA) h m ⟨[], some []⟩ := (rfl)
end
@[simp] theorem wpStep_guard (d : Option Nat) (o : AOp) (t : Nat) (w : Bool) (k : List AV → List ABlk → Mt → FP → Prop) :
    wpStep pr base ⟨d, o, some (t, w)⟩ e h m k = kG pr base d o w k e h m (eget e t) := by
  simp only [wpStep, wantedA]
  cases hv : eget e t with
  | bool b => cases b <;> cases w <;> simp [kG] <;> rfl
  | _ => rfl
@[simp] theorem setD_some (d : Nat) (v : AV) : setD e (some d) v = eset e d v := (rfl)
@[simp] theorem setD_none (v : AV) : setD e none v = e := (rfl)
@[simp] theorem eget_zero (x : AV) (l : List AV) : eget (x :: l) 0 = x := (rfl)
@[simp] theorem eget_succ (x : AV) (l : List AV) (n : Nat) : eget (x :: l) (n + 1) = eget l n := (rfl)
@[simp] theorem eset_nil0 (v : AV) : eset [] 0 v = [v] := (rfl)
@[simp] theorem eset_nils (v : AV) (n : Nat) : eset [] (n + 1) v = undefA :: eset [] n v := (rfl)
@[simp] theorem eset_zero (x : AV) (l : List AV) (v : AV) : eset (x :: l) 0 v = v :: l := (rfl)
@[simp] theorem eset_succ (x : AV) (l : List AV) (n : Nat) (v : AV) : eset (x :: l) (n + 1) v = x :: eset l n v := (rfl)
@[simp] theorem av_t (i : Nat) : av e (.t i) = eget e i := (rfl)
@[simp] theorem av_c (v : AV) : av e (.c v) = v := (rfl)
@[simp] theorem mup_none (m : Mt) (n : Nat) : mup base m [] none n = m := by
  cases m with | mk a b c => cases c <;> rfl
end

theorem wp_loop {α : Type} (I : α → StK) (μ : α → Nat) {b : ACode} {Q : ExK}
    (step : ∀ a e h m, I a e h m → wp pr base inR b e h m (onSeq (fun e h m => ∃ a', μ a' < μ a ∧ I a' e h m) Q)) :
    ∀ {a : α} {e : List AV} {h : List ABlk} {m : Mt}, I a e h m → wp pr base inR (.loop b) e h m Q := by
  have key : ∀ n a e h m, μ a < n → I a e h m → itW (wp pr base inR b) Q n e h m := by
    intro n
    induction n with
    | zero => intro a e h m hn; omega
    | succ n ih =>
      intro a e h m hn hI
      exact wp_mono b (onSeq_mono (fun e h m ⟨a', hl, hi⟩ => ih a' e h m (by omega) hi) (fun _ _ _ _ h => h)) (step a e h m hI)
  intro a e h m hI
  exact ⟨μ a + 1, key _ a e h m (Nat.lt_succ_self _) hI⟩

/-- A part of the code ahead of the rest. -/
theorem wp_seq_cut {a b : ACode} {e : List AV} {h : List ABlk} {m : Mt} {Q : ExK} (I : StK) (h1 : wp pr base inR a e h m (onSeq I Q)) (h2 : ∀ e h m, I e h m → wp pr base inR b e h m Q) : wp pr base inR (.seq a b) e h m Q :=
  wp_mono a (onSeq_mono h2 fun _ _ _ _ h => h) h1

/-! ### operations -/
def optK (x : Option OpR) (k : OpK) : Prop :=
  match x with
  | some r => k r.v r.h r.wr r.lk r.acc
  | none => False
theorem wpPlain_eq (o : AOp) (e : List AV) (h : List ABlk) (k : OpK) : wpPlain o e h k = optK (aOp (fun _ _ _ => none) e h o) k := (rfl)
@[simp] theorem optK_some (v : AV) (h : List ABlk) (wr : List Nat) (lk : Option (Nat × Nat)) (acc : Option (List Nat)) (k : OpK) : optK (some ⟨v, h, wr, lk, acc⟩) k = k v h wr lk acc := (rfl)
@[simp] theorem optK_none (k : OpK) : optK none k = False := (rfl)
theorem optK_ite (c : Prop) [Decidable c] (a b : Option OpR) (k : OpK) : optK (if c then a else b) k = ((c → optK a k) ∧ (¬c → optK b k)) := by
  by_cases h : c <;> simp [h]
@[simp] theorem optK_iten (c : Prop) [Decidable c] (a : Option OpR) (k : OpK) : optK (if c then a else none) k = (c ∧ optK a k) := by
  by_cases h : c <;> simp [h]
theorem optK_map {α : Type} (f : α → OpR) (x : Option α) (k : OpK) : optK (x.map f) k = ∃ v, x = some v ∧ optK (some (f v)) k := by
  cases x <;> simp
@[simp] theorem optK_map_some {α : Type} (f : α → OpR) (x : α) (k : OpK) : optK ((some x).map f) k = optK (some (f x)) k := (rfl)

section
variable {e : List AV} {h : List ABlk} {k : OpK}
@[simp] theorem wpOp_call (f : FuncId) (args : List AOpd) : wpOp pr (.call f args) e h k = ∃ r, Ends pr (.f f) (args.map (av e)) h r ∧ kFst k r := (rfl)
@[simp] theorem kFst_ap (v : AV) (h : List ABlk) (wr : List Nat) (lk : Option (Nat × Nat)) (k : OpK) : kFst k ⟨v, h, wr, lk⟩ = k v h wr lk none := (rfl)
def kCallV (pr : FuncId → Option AFunc) (args : List AV) (h : List ABlk) (k : OpK) : AV → Prop
  | .fn g cap => ∃ r, Ends pr (.f g) (args ++ cap) h r ∧ kFst k r
  | .yld l => ∃ r, Ends pr (.y l) args h r ∧ kFst k r
  | _ => False
@[simp] theorem wpOp_callV (f : AOpd) (args : List AOpd) : wpOp pr (.callV f args) e h k = kCallV pr (args.map (av e)) h k (av e f) := by
  simp only [wpOp]
  cases av e f <;> rfl
@[simp] theorem kCallV_fn (args : List AV) (g : FuncId) (cap : List AV) : kCallV pr args h k (.fn g cap) = ∃ r, Ends pr (.f g) (args ++ cap) h r ∧ kFst k r := (rfl)
@[simp] theorem kCallV_yld (args : List AV) (l : Nat) : kCallV pr args h k (.yld l) = ∃ r, Ends pr (.y l) args h r ∧ kFst k r := (rfl)
@[simp] theorem wpOp_mv (x : AOpd) : wpOp pr (.mv x) e h k = k (av e x) h [] none (some []) := (rfl)
def kPick (h : List ABlk) (k : OpK) (a b : AV) : AV → Prop
  | .bool t => k (if t then a else b) h [] none (some [])
  | _ => False
@[simp] theorem wpOp_pick (c a b : AOpd) : wpOp pr (.pick c a b) e h k = kPick h k (av e a) (av e b) (av e c) := by
  simp only [wpOp, wpPlain, aOp]; cases av e c <;> first | rfl | (rename_i b; cases b <;> rfl)
@[simp] theorem kPick_bool (a b : AV) (t : Bool) : kPick h k a b (.bool t) = k (if t then a else b) h [] none (some []) := (rfl)
theorem ite_bool (t x y : Bool) : (if t = true then AV.bool x else AV.bool y) = AV.bool (if t then x else y) := by cases t <;> rfl
theorem ite_or (t y : Bool) : (if t = true then AV.bool true else AV.bool y) = AV.bool (t || y) := by cases t <;> rfl
theorem ite_and (t y : Bool) : (if t = true then AV.bool y else AV.bool false) = AV.bool (t && y) := by cases t <;> rfl
@[simp] theorem wpOp_new (zs : List AV) : wpOp pr (.new zs) e h k = k (.ptr (some ⟨h.length, zs.length, 0⟩)) (h ++ [.row false zs]) [] none (some []) := (rfl)
@[simp] theorem wpOp_box (x : AOpd) : wpOp pr (.box x) e h k = k (.ptr (some ⟨h.length, (av e x).cells.length, 0⟩)) (h ++ [.row false (av e x).cells]) [] none (some []) := (rfl)

def evP (e : List AV) (ps : List (Nat × Nat × AOpd)) : List (Nat × Nat × AV) := ps.map fun p => (p.1, p.2.1, av e p.2.2)
@[simp] theorem evP_nil : evP e [] = [] := (rfl)
@[simp] theorem evP_cons (o s : Nat) (x : AOpd) (ps : List (Nat × Nat × AOpd)) : evP e ((o, s, x) :: ps) = (o, s, av e x) :: evP e ps := (rfl)
def kFill (zs : List AV) (k : List AV → Prop) (ps : List (Nat × Nat × AV)) : Prop :=
  match aFill zs ps with
  | some cs => k cs
  | none => False
@[simp] theorem kFill_nil (zs : List AV) (k : List AV → Prop) : kFill zs k [] = k zs := (rfl)
@[simp] theorem kFill_cons (zs : List AV) (k : List AV → Prop) (o s : Nat) (v : AV) (ps : List (Nat × Nat × AV)) : kFill zs k ((o, s, v) :: ps) = ((v.cells.length = s ∧ o + s ≤ zs.length) ∧ kFill (wrN zs o v.cells) k ps) := by
  unfold kFill
  by_cases hc : v.cells.length = s ∧ o + s ≤ zs.length
  · simp [aFill, hc]
  · simp only [aFill, hc, false_and]; rfl
def kAgg (h : List ABlk) (k : OpK) (cs : List AV) : Prop := k (.agg cs) h [] none (some [])
@[simp] theorem kAgg_ap (cs : List AV) : kAgg h k cs = k (.agg cs) h [] none (some []) := (rfl)
def kAggSl (h : List ABlk) (len : Nat) (k : OpK) (cs : List AV) : Prop := k (.sl (some ⟨h.length, cs.length, 0⟩) len (.k len)) (h ++ [.row false cs]) [] none (some [])
@[simp] theorem kAggSl_ap (len : Nat) (cs : List AV) : kAggSl h len k cs = k (.sl (some ⟨h.length, cs.length, 0⟩) len (.k len)) (h ++ [.row false cs]) [] none (some []) := (rfl)
@[simp] theorem wpOp_build (zs : List AV) (ps : List (Nat × Nat × AOpd)) : wpOp pr (.build zs ps) e h k = kFill zs (kAgg h k) (evP e ps) := by
  simp only [wpOp, wpPlain_eq, aOp, kFill, evP]
  cases aFill zs (ps.map fun p => (p.1, p.2.1, av e p.2.2)) <;> rfl
@[simp] theorem wpOp_buildSl (zs : List AV) (len : Nat) (ps : List (Nat × Nat × AOpd)) : wpOp pr (.buildSl zs len ps) e h k = kFill zs (kAggSl h len k) (evP e ps) := by
  simp only [wpOp, wpPlain_eq, aOp, kFill, evP]
  cases aFill zs (ps.map fun p => (p.1, p.2.1, av e p.2.2)) <;> rfl
@[simp] theorem wrN_nil (cs : List AV) (o : Nat) : wrN cs o [] = cs := (rfl)
theorem wrN_litS (x : AV) : ∀ (vs cs : List AV) (o : Nat), wrN (x :: cs) (o + 1) vs = x :: wrN cs o vs
  | [], cs, o => rfl
  | v :: vs, cs, o => by simp only [wrN, List.set_cons_succ]; exact wrN_litS x vs _ _
attribute [simp] wrN_litS
@[simp] theorem wrN_lit0 (x v : AV) (cs vs : List AV) : wrN (x :: cs) 0 (v :: vs) = v :: wrN cs 0 vs := by
  simp only [wrN, List.set_cons_zero]; exact wrN_litS v vs cs 0
@[simp] theorem wrN_one (cs : List AV) (o : Nat) (v : AV) : wrN cs o [v] = cs.set o v := (rfl)
theorem wrN_cons (cs : List AV) (o : Nat) (v : AV) (vs : List AV) : wrN cs o (v :: vs) = wrN (cs.set o v) (o + 1) vs := (rfl)

def kVal (h : List ABlk) (k : OpK) (x : Option AV) : Prop :=
  match x with
  | some v => k v h [] none (some [])
  | none => False
@[simp] theorem kVal_some (v : AV) : kVal h k (some v) = k v h [] none (some []) := (rfl)
@[simp] theorem kVal_none : kVal h k none = False := (rfl)
@[simp] theorem kVal_ite (c : Prop) [Decidable c] (x : Option AV) : kVal h k (if c then x else none) = (c ∧ kVal h k x) := by
  by_cases hc : c <;> simp [hc]
@[simp] theorem wpOp_bin (op : BinOp) (x y : AOpd) : wpOp pr (.bin op x y) e h k = kVal h k (aBin op (av e x) (av e y)) := by
  simp only [wpOp, wpPlain, aOp]; cases aBin op (av e x) (av e y) <;> rfl
@[simp] theorem wpOp_binB (op : BinOp) (x y : AOpd) : wpOp pr (.binB op x y) e h k = kVal h k (aBinB op (av e x) (av e y)) := by
  simp only [wpOp, wpPlain, aOp]; cases aBinB op (av e x) (av e y) <;> rfl
@[simp] theorem wpOp_eqAgg (ks : List (Option IntKind)) (ne : Bool) (x y : AOpd) : wpOp pr (.eqAgg ks ne x y) e h k = kVal h k (aEqAgg ks ne (av e x) (av e y)) := by
  simp only [wpOp, wpPlain, aOp]; cases aEqAgg ks ne (av e x) (av e y) <;> rfl
@[simp] theorem wpOp_un (op : UnOp) (x : AOpd) : wpOp pr (.un op x) e h k = kVal h k (aUn op (av e x)) := by
  simp only [wpOp, wpPlain, aOp]; cases aUn op (av e x) <;> rfl
@[simp] theorem wpOp_mkFn (f : FuncId) (cap : List AOpd) : wpOp pr (.mkFn f cap) e h k = k (.fn f (cap.map (av e))) h [] none (some []) := (rfl)
@[simp] theorem wpOp_mkMap (ag : Bool) (ks : List (Option IntKind)) : wpOp pr (.mkMap ag ks) e h k = k (.map (some h.length)) (h ++ [.map ag ks []]) [] none (some []) := (rfl)

/-- A cell, or some cells, of a block. -/
def rdB (B : Option ABlk) (g o : Nat) : Option AV :=
  match B with
  | some (.row _ cs) => if cs.length = g then cs[o]? else none
  | _ => none
def rdBN (B : Option ABlk) (g o n : Nat) : Option (List AV) :=
  match B with
  | some (.row _ cs) => if cs.length = g ∧ o + n ≤ cs.length then some ((cs.drop o).take n) else none
  | _ => none
@[simp] theorem rdB_row (ro : Bool) (cs : List AV) (g o : Nat) : rdB (some (.row ro cs)) g o = if cs.length = g then cs[o]? else none := (rfl)
@[simp] theorem rdBN_row (ro : Bool) (cs : List AV) (g o n : Nat) : rdBN (some (.row ro cs)) g o n = if cs.length = g ∧ o + n ≤ cs.length then some ((cs.drop o).take n) else none := (rfl)
@[simp] theorem rd1_eq (b g o : Nat) : rd1 h ⟨b, g, o⟩ = rdB h[b]? g o := (rfl)
@[simp] theorem rdN_eq (b g o n : Nat) : rdN h ⟨b, g, o⟩ n = rdBN h[b]? g o n := (rfl)
def kLd (b : Nat) (h : List ABlk) (k : OpK) : Option AV → Prop
  | some v => k v h [] none (some [b])
  | none => False
@[simp] theorem kLd_some (b : Nat) (v : AV) : kLd b h k (some v) = k v h [] none (some [b]) := (rfl)
@[simp] theorem kLd_ite (b : Nat) (c : Prop) [Decidable c] (x : Option AV) : kLd b h k (if c then x else none) = (c ∧ kLd b h k x) := by
  by_cases hc : c <;> simp [hc, kLd]
def kLoad (n : Option Nat) (h : List ABlk) (k : OpK) : AV → Prop
  | .ptr (some p) => match n with
    | none => kLd p.b h k (rd1 h p)
    | some n => kLd p.b h k ((rdN h p n).map .agg)
  | _ => False
@[simp] theorem kLoad_one (p : Ad) : kLoad none h k (.ptr (some p)) = kLd p.b h k (rd1 h p) := (rfl)
@[simp] theorem kLoad_n (n : Nat) (p : Ad) : kLoad (some n) h k (.ptr (some p)) = kLd p.b h k ((rdN h p n).map .agg) := (rfl)
@[simp] theorem wpOp_load (n : Option Nat) (a : AOpd) : wpOp pr (.load n a) e h k = kLoad n h k (av e a) := by
  simp only [wpOp, wpPlain, aOp]
  cases av e a with
  | ptr p =>
    cases p with
    | none => rfl
    | some p =>
      cases n with
      | none => simp only [kLoad]; cases rd1 h p <;> rfl
      | some n => simp only [kLoad]; cases rdN h p n <;> rfl
  | _ => rfl
@[simp] theorem map_ite {α β : Type} (c : Prop) [Decidable c] (x : α) (f : α → β) : (if c then some x else none).map f = if c then some (f x) else none := by
  by_cases hc : c <;> simp [hc]

def stB (n : Nat) (g o b : Nat) (h : List ABlk) (v : List AV) (k : OpK) : Option ABlk → Prop
  | some (.row false cs) => (cs.length = g ∧ o + n ≤ cs.length ∧ v.length = n ∧ v.all AV.one = true) ∧ k undefA (h.set b (.row false (wrN cs o v))) [b] (lkOf b v) (some [b])
  | _ => False
@[simp] theorem stB_row (n g o b : Nat) (v : List AV) (cs : List AV) : stB n g o b h v k (some (.row false cs)) = ((cs.length = g ∧ o + n ≤ cs.length ∧ v.length = n ∧ v.all AV.one = true) ∧ k undefA (h.set b (.row false (wrN cs o v))) [b] (lkOf b v) (some [b])) := (rfl)
def kStore (n : Nat) (h : List ABlk) (v : List AV) (k : OpK) : AV → Prop
  | .ptr (some p) => stB n p.g p.o p.b h v k h[p.b]?
  | _ => False
@[simp] theorem kStore_ap (n : Nat) (v : List AV) (b g o : Nat) : kStore n h v k (.ptr (some ⟨b, g, o⟩)) = stB n g o b h v k h[b]? := (rfl)
@[simp] theorem wpOp_store (n : Nat) (a x : AOpd) : wpOp pr (.store n a x) e h k = kStore n h (av e x).cells k (av e a) := by
  simp only [wpOp, wpPlain, aOp]
  cases av e a with
  | ptr p =>
    cases p with
    | none => rfl
    | some p =>
      simp only [kStore]
      cases h[p.b]? with
      | none => rfl
      | some B =>
        cases B with
        | row ro cs =>
          cases ro with
          | true => rfl
          | false =>
            simp only [stB]
            by_cases hc : cs.length = p.g ∧ p.o + n ≤ cs.length ∧ (av e x).cells.length = n ∧ ((av e x).cells.all AV.one) = true
            · rw [if_pos hc]; exact propext ⟨fun q => ⟨hc, q⟩, fun q => q.2⟩
            · rw [if_neg hc]; exact propext ⟨fun q => q.elim, fun q => hc q.1⟩
        | _ => rfl
  | _ => rfl
@[simp] theorem one_int (k : IntKind) (n : Int) : (AV.int k n).one = true := (rfl)
@[simp] theorem one_bool (b : Bool) : (AV.bool b).one = true := (rfl)
@[simp] theorem one_sl (a : Option Ad) (l : Nat) (c : Cap) : (AV.sl a l c).one = true := (rfl)
@[simp] theorem one_ptr (a : Option Ad) : (AV.ptr a).one = true := (rfl)
@[simp] theorem one_map (a : Option Nat) : (AV.map a).one = true := (rfl)
@[simp] theorem one_fn (f : FuncId) (cs : List AV) : (AV.fn f cs).one = true := (rfl)
@[simp] theorem one_nilFn : AV.nilFn.one = true := (rfl)
@[simp] theorem one_yld (l : Nat) : (AV.yld l).one = true := (rfl)
@[simp] theorem one_str (s : ByteArray) : (AV.str s).one = true := (rfl)

def kNil (h : List ABlk) (k : OpK) : AV → Prop
  | .ptr (some p) => k (.ptr (some p)) h [] none (some [])
  | .fn f cs => k (.fn f cs) h [] none (some [])
  | .yld l => k (.yld l) h [] none (some [])
  | _ => False
@[simp] theorem kNil_ptr (p : Ad) : kNil h k (.ptr (some p)) = k (.ptr (some p)) h [] none (some []) := (rfl)
@[simp] theorem kNil_fn (f : FuncId) (cs : List AV) : kNil h k (.fn f cs) = k (.fn f cs) h [] none (some []) := (rfl)
@[simp] theorem kNil_yld (l : Nat) : kNil h k (.yld l) = k (.yld l) h [] none (some []) := (rfl)
@[simp] theorem wpOp_nilCheck (x : AOpd) : wpOp pr (.nilCheck x) e h k = kNil h k (av e x) := by
  simp only [wpOp, wpPlain, aOp]
  cases av e x with
  | ptr p => cases p <;> rfl
  | _ => rfl
def vIsNil (ne : Bool) : AV → Option AV
  | .sl a _ _ => some (.bool (if ne then !a.isNone else a.isNone))
  | _ => none
@[simp] theorem vIsNil_sl (ne : Bool) (a : Option Ad) (l : Nat) (c : Cap) : vIsNil ne (.sl a l c) = some (.bool (if ne then !a.isNone else a.isNone)) := (rfl)
@[simp] theorem wpOp_isNil (b : Bool) (x : AOpd) : wpOp pr (.isNil b x) e h k = kVal h k (vIsNil b (av e x)) := by
  simp only [wpOp, wpPlain, aOp]; cases av e x <;> rfl
def vConv (k : IntKind) : AV → Option AV
  | .int _ n => some (.int k (k.wrap n))
  | _ => none
@[simp] theorem vConv_int (k k' : IntKind) (n : Int) : vConv k (.int k' n) = some (.int k (k.wrap n)) := (rfl)
@[simp] theorem wpOp_conv (b : IntKind) (x : AOpd) : wpOp pr (.conv b x) e h k = kVal h k (vConv b (av e x)) := by
  simp only [wpOp, wpPlain, aOp]; cases av e x <;> rfl
theorem wpOp_bytesStr (x : AOpd) : wpOp pr (.bytesStr x) e h k = optK (aOp (fun _ _ _ => none) e h (.bytesStr x)) k := (rfl)
def kMkSl (zs : List AV) (bytes : Nat) (h : List ABlk) (k : OpK) : AV → AV → Prop
  | .int _ l, .int _ c => (0 ≤ IntKind.i64.wrap l ∧ IntKind.i64.wrap l ≤ IntKind.i64.wrap c ∧ bytes * IntKind.i64.wrap c ≤ 2 ^ 48) ∧
    k (.sl (some ⟨h.length, (IntKind.i64.wrap c).toNat * zs.length, 0⟩) (IntKind.i64.wrap l).toNat (.k (IntKind.i64.wrap c).toNat)) (h ++ [.row false (List.replicate (IntKind.i64.wrap c).toNat zs).flatten]) [] none (some [])
  | _, _ => False
@[simp] theorem kMkSl_int (zs : List AV) (bytes : Nat) (k1 k2 : IntKind) (l c : Int) : kMkSl zs bytes h k (.int k1 l) (.int k2 c) = ((0 ≤ IntKind.i64.wrap l ∧ IntKind.i64.wrap l ≤ IntKind.i64.wrap c ∧ bytes * IntKind.i64.wrap c ≤ 2 ^ 48) ∧
    k (.sl (some ⟨h.length, (IntKind.i64.wrap c).toNat * zs.length, 0⟩) (IntKind.i64.wrap l).toNat (.k (IntKind.i64.wrap c).toNat)) (h ++ [.row false (List.replicate (IntKind.i64.wrap c).toNat zs).flatten]) [] none (some [])) := (rfl)
@[simp] theorem wpOp_mkSl (zs : List AV) (b : Nat) (x y : AOpd) : wpOp pr (.mkSl zs b x y) e h k = kMkSl zs b h k (av e x) (av e y) := by
  simp only [wpOp, wpPlain, aOp]
  cases av e x <;> cases av e y <;> first | rfl | skip
  rename_i k1 l k2 c
  simp only [kMkSl]
  by_cases hc : 0 ≤ IntKind.i64.wrap l ∧ IntKind.i64.wrap l ≤ IntKind.i64.wrap c ∧ b * IntKind.i64.wrap c ≤ 2 ^ 48
  · rw [if_pos hc]; simp only [hc, true_and]
  · rw [if_neg hc]; simp only [hc, false_and]
/-- Slices are cut: bounds, then the value. -/
theorem wpOp_slice (s : Nat) (x : AOpd) (lo hi : Option AOpd) : wpOp pr (.slice s x lo hi) e h k = optK (aOp (fun _ _ _ => none) e h (.slice s x lo hi)) k := (rfl)
def vSlice (size : Nat) (l k : Nat) : AV → Option AV
  | .sl a len cap => if l ≤ k ∧ k ≤ capMax len cap then (capCut size l cap).map fun cap => .sl (a.map fun p => { p with o := p.o + l * size }) (k - l) cap else none
  | _ => none
theorem wpOp_slice_of {s : Nat} {x : AOpd} {lo hi : Option AOpd} {a : Option Ad} {len : Nat} {cap : Cap} {l r : Nat} (hx : av e x = .sl a len cap) (hl : aBound e 0 lo = some l) (hh : aBound e len hi = some r) :
    wpOp pr (.slice s x lo hi) e h k = kVal h k (vSlice s l r (.sl a len cap)) := by
  simp only [wpOp, wpPlain, aOp, hx, hl, hh, vSlice]
  by_cases hc : l ≤ r ∧ r ≤ capMax len cap
  · simp only [if_pos hc]; cases capCut s l cap <;> rfl
  · simp only [if_neg hc]; rfl
theorem wpOp_sliceS (x : AOpd) (lo hi : Option AOpd) : wpOp pr (.sliceS x lo hi) e h k = optK (aOp (fun _ _ _ => none) e h (.sliceS x lo hi)) k := (rfl)
def vSliceA (n size : Nat) : AV → Option AV
  | .ptr (some p) => if 0 < n ∧ 0 < size then some (.sl (some p) n (.k n)) else none
  | _ => none
@[simp] theorem vSliceA_ptr (n size : Nat) (p : Ad) : vSliceA n size (.ptr (some p)) = if 0 < n ∧ 0 < size then some (.sl (some p) n (.k n)) else none := (rfl)
@[simp] theorem wpOp_sliceA (n s : Nat) (x : AOpd) : wpOp pr (.sliceA n s x) e h k = kVal h k (vSliceA n s (av e x)) := by
  simp only [wpOp, wpPlain, aOp]
  cases av e x with
  | ptr p => cases p with
    | none => rfl
    | some p => simp only [vSliceA]; by_cases hc : 0 < n ∧ 0 < s <;> simp [hc]
  | _ => rfl
theorem wpOp_slice3 (s : Nat) (x : AOpd) (lo hi : Option AOpd) (mx : AOpd) : wpOp pr (.slice3 s x lo hi mx) e h k = optK (aOp (fun _ _ _ => none) e h (.slice3 s x lo hi mx)) k := (rfl)
def vField (n : Option Nat) (off : Nat) : AV → Option AV
  | .agg cs => aPart n off cs
  | _ => none
@[simp] theorem vField_one (off : Nat) (cs : List AV) : vField none off (.agg cs) = cs[off]? := (rfl)
@[simp] theorem vField_n (n off : Nat) (cs : List AV) : vField (some n) off (.agg cs) = some (.agg ((cs.drop off).take n)) := (rfl)
@[simp] theorem wpOp_field (n : Option Nat) (o : Nat) (x : AOpd) : wpOp pr (.field n o x) e h k = kVal h k (vField n o (av e x)) := by
  simp only [wpOp, wpPlain, aOp]
  cases av e x with
  | agg cs => simp only [vField]; cases aPart n o cs <;> rfl
  | _ => rfl
def vFA (off : Nat) : AV → Option AV
  | .ptr (some p) => some (.ptr (some ⟨p.b, p.g, p.o + off⟩))
  | _ => none
@[simp] theorem vFA_ptr (off b g o : Nat) : vFA off (.ptr (some ⟨b, g, o⟩)) = some (.ptr (some ⟨b, g, o + off⟩)) := (rfl)
@[simp] theorem wpOp_fieldAddr (o : Nat) (x : AOpd) : wpOp pr (.fieldAddr o x) e h k = kVal h k (vFA o (av e x)) := by
  simp only [wpOp, wpPlain, aOp]
  cases av e x with
  | ptr p => cases p <;> rfl
  | _ => rfl
def vIA (len size : Nat) : AV → AV → Option AV
  | .ptr (some p), .int _ n => if 0 ≤ n ∧ n < len then some (.ptr (some ⟨p.b, p.g, p.o + n.toNat * size⟩)) else none
  | _, _ => none
@[simp] theorem vIA_ptr (len size b g o : Nat) (k : IntKind) (n : Int) : vIA len size (.ptr (some ⟨b, g, o⟩)) (.int k n) = if 0 ≤ n ∧ n < len then some (.ptr (some ⟨b, g, o + n.toNat * size⟩)) else none := (rfl)
@[simp] theorem wpOp_idxArr (l s : Nat) (x i : AOpd) : wpOp pr (.idxArr l s x i) e h k = kVal h k (vIA l s (av e x) (av e i)) := by
  simp only [wpOp, wpPlain, aOp]
  cases av e x with
  | ptr p => cases p with
    | none => rfl
    | some p => cases av e i with
      | int kk n => simp only [vIA]; by_cases hc : 0 ≤ n ∧ n < l <;> simp [hc]
      | _ => rfl
  | _ => rfl
def vIS (size : Nat) : AV → AV → Option AV
  | .sl (some p) len _, .int _ n => if 0 ≤ n ∧ n < len then some (.ptr (some ⟨p.b, p.g, p.o + n.toNat * size⟩)) else none
  | _, _ => none
@[simp] theorem vIS_sl (size b g o len : Nat) (c : Cap) (k : IntKind) (n : Int) : vIS size (.sl (some ⟨b, g, o⟩) len c) (.int k n) = if 0 ≤ n ∧ n < len then some (.ptr (some ⟨b, g, o + n.toNat * size⟩)) else none := (rfl)
@[simp] theorem wpOp_idxSl (s : Nat) (x i : AOpd) : wpOp pr (.idxSl s x i) e h k = kVal h k (vIS s (av e x) (av e i)) := by
  simp only [wpOp, wpPlain, aOp]
  cases av e x with
  | sl p len c => cases p with
    | none => rfl
    | some p => cases av e i with
      | int kk n => simp only [vIS]; by_cases hc : 0 ≤ n ∧ n < len <;> simp [hc]
      | _ => rfl
  | _ => rfl
def vIx (len size : Nat) (n : Option Nat) : AV → AV → Option AV
  | .agg cs, .int _ j => if 0 ≤ j ∧ j < len then aPart n (j.toNat * size) cs else none
  | _, _ => none
@[simp] theorem vIx_one (len size : Nat) (cs : List AV) (k : IntKind) (j : Int) : vIx len size none (.agg cs) (.int k j) = if 0 ≤ j ∧ j < len then cs[j.toNat * size]? else none := (rfl)
@[simp] theorem vIx_n (len size n : Nat) (cs : List AV) (k : IntKind) (j : Int) : vIx len size (some n) (.agg cs) (.int k j) = if 0 ≤ j ∧ j < len then some (.agg ((cs.drop (j.toNat * size)).take n)) else none := (rfl)
@[simp] theorem wpOp_index (l s : Nat) (n : Option Nat) (x i : AOpd) : wpOp pr (.index l s n x i) e h k = kVal h k (vIx l s n (av e x) (av e i)) := by
  simp only [wpOp, wpPlain, aOp]
  cases av e x with
  | agg cs => cases av e i with
    | int kk j =>
      simp only [vIx]
      by_cases hc : 0 ≤ j ∧ j < l
      · simp only [if_pos hc]; cases aPart n (j.toNat * s) cs <;> rfl
      · simp [hc]
    | _ => rfl
  | _ => rfl
theorem wpOp_indexS (x i : AOpd) : wpOp pr (.indexS x i) e h k = optK (aOp (fun _ _ _ => none) e h (.indexS x i)) k := (rfl)

def kLk (r : Option Nat) (h : List ABlk) (k : OpK) (ok : Bool) (z : AV) : Option (Nat × AV) → Prop
  | some (_, v) => k (if ok then .tup [v, .bool true] else v) h [] none (some r.toList)
  | none => k (if ok then .tup [z, .bool false] else z) h [] none (some r.toList)
@[simp] theorem kLk_some (r : Option Nat) (ok : Bool) (z v : AV) (i : Nat) : kLk r h k ok z (some (i, v)) = k (if ok then .tup [v, .bool true] else v) h [] none (some r.toList) := (rfl)
@[simp] theorem kLk_none (r : Option Nat) (ok : Bool) (z : AV) : kLk r h k ok z none = k (if ok then .tup [z, .bool false] else z) h [] none (some r.toList) := (rfl)
def mpB (ag : Bool) (ks : List (Option IntKind)) (k : List (AV × AV) → Prop) : Option ABlk → Prop
  | some (.map ag' ks' es) => (ag' = ag ∧ ks' = ks) ∧ k es
  | _ => False
@[simp] theorem mpB_map (ag ag' : Bool) (ks ks' : List (Option IntKind)) (k : List (AV × AV) → Prop) (es : List (AV × AV)) : mpB ag ks k (some (.map ag' ks' es)) = ((ag' = ag ∧ ks' = ks) ∧ k es) := (rfl)
def kLkE (r : Nat) (h : List ABlk) (k : OpK) (ok : Bool) (z : AV) (key : List Int) (es : List (AV × AV)) : Prop := kLk (some r) h k ok z (aFind key es 0)
@[simp] theorem kLkE_ap (r : Nat) (ok : Bool) (z : AV) (key : List Int) (es : List (AV × AV)) : kLkE r h k ok z key es = kLk (some r) h k ok z (aFind key es 0) := (rfl)
def kLookup (ag : Bool) (ks : List (Option IntKind)) (z : AV) (h : List ABlk) (k : OpK) (ok : Bool) (key : AV) : AV → Prop
  | .map none => shapeK ag ks key = true ∧ k (if ok then .tup [z, .bool false] else z) h [] none (some [])
  | .map (some r) => shapeK ag ks key = true ∧ mpB ag ks (kLkE r h k ok z (codeD key)) h[r]?
  | _ => False
@[simp] theorem kLookup_map (ag : Bool) (ks : List (Option IntKind)) (z : AV) (ok : Bool) (key : AV) (r : Nat) : kLookup ag ks z h k ok key (.map (some r)) = (shapeK ag ks key = true ∧ mpB ag ks (kLkE r h k ok z (codeD key)) h[r]?) := (rfl)
@[simp] theorem wpOp_lookup (ag : Bool) (ks : List (Option IntKind)) (z : AV) (a b : AOpd) (ok : Bool) : wpOp pr (.lookup ag ks z a b ok) e h k = kLookup ag ks z h k ok (av e b) (av e a) := by
  simp only [wpOp, wpPlain, aOp]
  by_cases hs : shapeK ag ks (av e b) = true
  · simp only [hs, if_true]
    cases av e a with
    | map r => cases r with
      | none => simp [kLookup, hs]
      | some r =>
        simp only [kLookup, hs, true_and]
        cases h[r]? with
        | none => rfl
        | some B => cases B with
          | map ag' ks' es =>
            simp only [mpB]
            by_cases hc : ag' = ag ∧ ks' = ks
            · simp only [hc, and_self, if_true, true_and, kLkE]
              cases aFind (codeD (av e b)) es 0 <;> rfl
            · rw [if_neg hc]; simp only [hc, false_and]
          | _ => rfl
    | _ => rfl
  · simp only [hs]
    cases av e a with
    | map r => cases r <;> simp [kLookup, hs]
    | _ => simp [kLookup]
/-- The entries of a map with one more, or another, value. -/
def mput (key x : AV) (es : List (AV × AV)) : List (AV × AV) :=
  match aFind (codeD key) es 0 with
  | some (i, _) => es.set i (key, x)
  | none => es ++ [(key, x)]
def kUpdE (ag : Bool) (ks : List (Option IntKind)) (r : Nat) (h : List ABlk) (k : OpK) (key x : AV) (es : List (AV × AV)) : Prop := k undefA (h.set r (.map ag ks (mput key x es))) [r] (lkOf r [x]) (some [r])
@[simp] theorem kUpdE_ap (ag : Bool) (ks : List (Option IntKind)) (r : Nat) (key x : AV) (es : List (AV × AV)) : kUpdE ag ks r h k key x es = k undefA (h.set r (.map ag ks (mput key x es))) [r] (lkOf r [x]) (some [r]) := (rfl)
def kMapUpd (ag : Bool) (ks : List (Option IntKind)) (h : List ABlk) (k : OpK) (key x : AV) : AV → Prop
  | .map (some r) => shapeK ag ks key = true ∧ mpB ag ks (kUpdE ag ks r h k key x) h[r]?
  | _ => False
@[simp] theorem kMapUpd_ap (ag : Bool) (ks : List (Option IntKind)) (key x : AV) (r : Nat) : kMapUpd ag ks h k key x (.map (some r)) = (shapeK ag ks key = true ∧ mpB ag ks (kUpdE ag ks r h k key x) h[r]?) := (rfl)
@[simp] theorem wpOp_mapUpd (ag : Bool) (ks : List (Option IntKind)) (a b c : AOpd) : wpOp pr (.mapUpd ag ks a b c) e h k = kMapUpd ag ks h k (av e b) (av e c) (av e a) := by
  simp only [wpOp, wpPlain, aOp]
  by_cases hs : shapeK ag ks (av e b) = true
  · simp only [hs, if_true]
    cases av e a with
    | map r => cases r with
      | none => rfl
      | some r =>
        simp only [kMapUpd, hs, true_and]
        cases h[r]? with
        | none => rfl
        | some B => cases B with
          | map ag' ks' es =>
            simp only [mpB]
            by_cases hc : ag' = ag ∧ ks' = ks
            · simp only [hc, and_self, if_true, true_and, kUpdE, mput]
              cases aFind (codeD (av e b)) es 0 <;> rfl
            · rw [if_neg hc]; simp only [hc, false_and]
          | _ => rfl
    | _ => rfl
  · simp only [hs]
    cases av e a with
    | map r => cases r <;> simp [kMapUpd, hs]
    | _ => simp [kMapUpd]
def vExt (i : Nat) : AV → Option AV
  | .tup vs => vs[i]?
  | _ => none
@[simp] theorem vExt_tup (i : Nat) (vs : List AV) : vExt i (.tup vs) = vs[i]? := (rfl)
@[simp] theorem wpOp_extract (x : AOpd) (i : Nat) : wpOp pr (.extract x i) e h k = kVal h k (vExt i (av e x)) := by
  simp only [wpOp, wpPlain, aOp]
  cases av e x with
  | tup vs => simp only [vExt]; cases vs[i]? <;> rfl
  | _ => rfl
def vLen : AV → Option AV
  | .sl _ len _ => some (.int .i64 len)
  | _ => none
@[simp] theorem vLen_sl (a : Option Ad) (n : Nat) (c : Cap) : vLen (.sl a n c) = some (.int .i64 n) := (rfl)
@[simp] theorem wpOp_len (x : AOpd) : wpOp pr (.len x) e h k = kVal h k (vLen (av e x)) := by
  simp only [wpOp, wpPlain, aOp]; cases av e x <;> rfl
theorem wpOp_lenS (x : AOpd) : wpOp pr (.lenS x) e h k = optK (aOp (fun _ _ _ => none) e h (.lenS x)) k := (rfl)
def vMM (f : AV → AV → Option AV) : List AV → Option AV
  | x :: rest => foldO f x rest
  | [] => none
@[simp] theorem vMM_cons (f : AV → AV → Option AV) (x : AV) (rest : List AV) : vMM f (x :: rest) = foldO f x rest := (rfl)
@[simp] theorem foldO_nil (f : AV → AV → Option AV) (x : AV) : foldO f x [] = some x := (rfl)
@[simp] theorem foldO_mx (k k' : IntKind) (x y : Int) (l : List AV) : foldO aMax (.int k x) (.int k' y :: l) = foldO aMax (.int k (if y > x then y else x)) l := (rfl)
@[simp] theorem foldO_mn (k k' : IntKind) (x y : Int) (l : List AV) : foldO aMin (.int k x) (.int k' y :: l) = foldO aMin (.int k (if y < x then y else x)) l := (rfl)
@[simp] theorem wpOp_mx (xs : List AOpd) : wpOp pr (.mx xs) e h k = kVal h k (vMM aMax (xs.map (av e))) := by
  simp only [wpOp, wpPlain, aOp]
  cases hx : xs.map (av e) with
  | nil => rfl
  | cons x rest => simp only [vMM]; cases foldO aMax x rest <;> rfl
@[simp] theorem wpOp_mn (xs : List AOpd) : wpOp pr (.mn xs) e h k = kVal h k (vMM aMin (xs.map (av e))) := by
  simp only [wpOp, wpPlain, aOp]
  cases hx : xs.map (av e) with
  | nil => rfl
  | cons x rest => simp only [vMM]; cases foldO aMin x rest <;> rfl
theorem wpOp_append0 (s b : Nat) (x y : AOpd) : wpOp pr (.append s b x y) e h k = optK (aOp (fun _ _ _ => none) e h (.append s b x y)) k := (rfl)
theorem wpOp_copy (s : Nat) (x y : AOpd) : wpOp pr (.copy s x y) e h k = optK (aOp (fun _ _ _ => none) e h (.copy s x y)) k := (rfl)
end

/-! ### numbers -/
@[simp] theorem aBin_add (k : IntKind) (a b : Int) : aBin .add (.int k a) (.int k b) = some (.int k (k.wrap (a + b))) := by simp [aBin]
@[simp] theorem aBin_sub (k : IntKind) (a b : Int) : aBin .sub (.int k a) (.int k b) = some (.int k (k.wrap (a - b))) := by simp [aBin]
@[simp] theorem aBin_mul (k : IntKind) (a b : Int) : aBin .mul (.int k a) (.int k b) = some (.int k (k.wrap (a * b))) := by simp [aBin]
theorem aBin_quo (k : IntKind) (a b : Int) (hb : b ≠ 0) : aBin .quo (.int k a) (.int k b) = some (.int k (k.wrap (a.tdiv b))) := by simp [aBin, hb]
theorem aBin_rem (k : IntKind) (a b : Int) (hb : b ≠ 0) : aBin .rem (.int k a) (.int k b) = some (.int k (a.tmod b)) := by simp [aBin, hb]
@[simp] theorem aBin_eql (k : IntKind) (a b : Int) : aBin .eql (.int k a) (.int k b) = some (.bool (a == b)) := by simp [aBin]
@[simp] theorem aBin_neq (k : IntKind) (a b : Int) : aBin .neq (.int k a) (.int k b) = some (.bool (a != b)) := by simp [aBin]
@[simp] theorem aBin_lss (k : IntKind) (a b : Int) : aBin .lss (.int k a) (.int k b) = some (.bool (decide (a < b))) := by simp [aBin]
@[simp] theorem aBin_leq (k : IntKind) (a b : Int) : aBin .leq (.int k a) (.int k b) = some (.bool (decide (a ≤ b))) := by simp [aBin]
@[simp] theorem aBin_gtr (k : IntKind) (a b : Int) : aBin .gtr (.int k a) (.int k b) = some (.bool (decide (a > b))) := by simp [aBin]
@[simp] theorem aBin_geq (k : IntKind) (a b : Int) : aBin .geq (.int k a) (.int k b) = some (.bool (decide (a ≥ b))) := by simp [aBin]
@[simp] theorem aBinB_eql (a b : Bool) : aBinB .eql (.bool a) (.bool b) = some (.bool (a == b)) := (rfl)
@[simp] theorem aBinB_neq (a b : Bool) : aBinB .neq (.bool a) (.bool b) = some (.bool (!(a == b))) := (rfl)
@[simp] theorem aUn_not (b : Bool) : aUn .not (.bool b) = some (.bool !b) := (rfl)
@[simp] theorem aUn_neg (k : IntKind) (a : Int) : aUn .neg (.int k a) = some (.int k (k.wrap (0 - a))) := (rfl)
theorem wrap64 {a : Int} (h1 : -9223372036854775808 ≤ a) (h2 : a ≤ 9223372036854775807) : IntKind.i64.wrap a = a := by
  rw [IntKind.wrap_i64]; omega

/-! ### heaps -/
section
variable {h l : List ABlk}
@[simp] theorem hget_new (k : Nat) : (h ++ l)[h.length + k]? = l[k]? := by rw [List.getElem?_append_right (by omega)]; congr 1; omega
@[simp] theorem hget_new0 : (h ++ l)[h.length]? = l[0]? := by rw [List.getElem?_append_right (by omega)]; congr 1; omega
theorem hget_old {b : Nat} (hb : b < h.length) : (h ++ l)[b]? = h[b]? := List.getElem?_append_left hb
theorem hget_some {b : Nat} {B : ABlk} (hb : h[b]? = some B) : (h ++ l)[b]? = some B := by
  rw [List.getElem?_append_left (List.getElem?_eq_some_iff.mp hb).1]; exact hb
@[simp] theorem hset_new (k : Nat) (x : ABlk) : (h ++ l).set (h.length + k) x = h ++ l.set k x := by
  rw [List.set_append_right _ _ (by omega)]; congr 2; omega
@[simp] theorem hset_new0 (x : ABlk) : (h ++ l).set h.length x = h ++ l.set 0 x := by
  rw [List.set_append_right _ _ (by omega)]; congr 2; omega
end
@[simp] theorem cells_agg (cs : List AV) : (AV.agg cs).cells = cs := (rfl)
@[simp] theorem cells_int (k : IntKind) (n : Int) : (AV.int k n).cells = [.int k n] := (rfl)
@[simp] theorem cells_bool (n : Bool) : (AV.bool n).cells = [.bool n] := (rfl)
@[simp] theorem cells_sl (a : Option Ad) (n : Nat) (c : Cap) : (AV.sl a n c).cells = [.sl a n c] := (rfl)
@[simp] theorem cells_ptr (a : Option Ad) : (AV.ptr a).cells = [.ptr a] := (rfl)
@[simp] theorem cells_map (a : Option Nat) : (AV.map a).cells = [.map a] := (rfl)
@[simp] theorem cells_fn (f : FuncId) (cs : List AV) : (AV.fn f cs).cells = [.fn f cs] := (rfl)
@[simp] theorem cells_yld (l : Nat) : (AV.yld l).cells = [.yld l] := (rfl)
@[simp] theorem cells_nilFn : AV.nilFn.cells = [.nilFn] := (rfl)
@[simp] theorem cells_str (s : ByteArray) : (AV.str s).cells = [.str s] := (rfl)

end Go.Proofs.Ytocoadpepofbbaa.AM
