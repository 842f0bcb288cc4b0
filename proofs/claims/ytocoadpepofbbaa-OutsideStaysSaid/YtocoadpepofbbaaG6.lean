/-
  CLOSEDNESS, operation by operation.
-/
import Derived.Test.YtocoadpepofbbaaG5
import Derived.Test.YtocoadpepofbbaaG2
set_option linter.unusedVariables false
set_option linter.unusedSimpArgs false
namespace Go.Proofs.Ytocoadpepofbbaa.AM
open Go

def CallCl (call : Tgt → List AV → List ABlk → Option Ret) : Prop :=
  ∀ t args h r, call t args h = some r → Cl h.length (refsL args) → HCl h.length h → OpCl h r.v r.h r.wr r.lk

theorem refsL_nil {cs ds : List AV} (h : refsL (cs ++ ds) = []) : refsL cs = [] ∧ refsL ds = [] := by
  rw [refsL_append] at h; simpa using h
theorem int_cl (n : Nat) (k : IntKind) (i : Int) : Cl n (refs (.int k i)) := by simp only [refs]; exact Cl.nil n
theorem bool_cl (n : Nat) (b : Bool) : Cl n (refs (.bool b)) := by simp only [refs]; exact Cl.nil n
theorem str_cl (n : Nat) (b : ByteArray) : Cl n (refs (.str b)) := by simp only [refs]; exact Cl.nil n
theorem ptr_cl {n : Nat} {p : Ad} (h : p.b < n) : Cl n (refs (.ptr (some p))) := by
  intro b hb; simp only [refs, List.mem_singleton] at hb; omega
theorem sl_cl {n : Nat} {p : Ad} {l : Nat} {c : Cap} (h : p.b < n) : Cl n (refs (.sl (some p) l c)) := by
  intro b hb; simp only [refs, List.mem_singleton] at hb; omega
theorem ptr_lt {n : Nat} {p : Ad} (h : Cl n (refs (.ptr (some p)))) : p.b < n := h _ (by simp [refs])
theorem sl_lt {n : Nat} {p : Ad} {l : Nat} {c : Cap} (h : Cl n (refs (.sl (some p) l c))) : p.b < n := h _ (by simp [refs])
theorem slO_cl {n : Nat} {a : Option Ad} {l l' : Nat} {c c' : Cap} {f : Ad → Ad} (hf : ∀ p, (f p).b = p.b) (h : Cl n (refs (.sl a l c))) : Cl n (refs (.sl (a.map f) l' c')) := by
  cases a with
  | none => simp only [Option.map, refs]; exact Cl.nil n
  | some p => exact sl_cl (by rw [hf]; exact sl_lt h)
theorem zs_cl {n : Nat} {zs : List AV} (h : refsL zs = []) : Cl n (refsL zs) := by rw [h]; exact Cl.nil n

theorem row_write_cl {cs new : List AV} {ro ro' : Bool} {o : Nat} : ∀ n, BCl n (.row ro cs) → Cl n (refsL new) → BCl n (.row ro' (wrN cs o new)) :=
  fun n h k => wrN_cl h k

set_option maxHeartbeats 1000000 in
theorem aOp_cl {call : Tgt → List AV → List ABlk → Option Ret} (hcall : CallCl call) {e : List AV} {h : List ABlk} {o : AOp} {r : OpR}
    (hr : aOp call e h o = some r) (he : Cl h.length (refsL e)) (H : HCl h.length h) (hc : clOp o = true) : OpCl h r.v r.h r.wr r.lk := by
  have hc : refsL (opCs o) = [] := by simpa [clOp] using hc
  cases o with
  | mv x =>
    simp only [aOp] at hr; cases hr
    exact .pure H (av_cl he hc)
  | pick c a b =>
    simp only [opCs] at hc
    obtain ⟨h1, h2⟩ := refsL_nil hc
    obtain ⟨h0, h1⟩ := refsL_nil h1
    simp only [aOp] at hr
    split at hr <;> cases hr
    refine .pure H ?_
    dsimp only
    split
    · exact av_cl he h1
    · exact av_cl he h2
  | new zs =>
    simp only [aOp] at hr; cases hr
    exact .push H (k := .row false zs) (zs_cl hc) (ptr_cl (by simp))
  | box x =>
    simp only [aOp] at hr; cases hr
    exact .push H (k := .row false _) ((cells_cl (av_cl he hc)).le (by omega)) (ptr_cl (by simp))
  | build zs ps =>
    obtain ⟨h1, h2⟩ := refsL_nil (cs := zs) hc
    simp only [aOp] at hr
    split at hr <;> cases hr
    rename_i cs hcs
    refine .pure H ?_
    show Cl _ (refsL cs)
    refine aFill_cl hcs (zs_cl h1) fun p hp => ?_
    obtain ⟨q, hq, rfl⟩ := List.mem_map.1 hp
    exact parts_cl he h2 q hq
  | buildSl zs len ps =>
    obtain ⟨h1, h2⟩ := refsL_nil (cs := zs) hc
    simp only [aOp] at hr
    split at hr <;> cases hr
    rename_i cs hcs
    refine .push H (k := .row false cs) ?_ (sl_cl (by simp))
    show Cl _ (refsL cs)
    refine aFill_cl hcs (zs_cl h1) fun p hp => ?_
    obtain ⟨q, hq, rfl⟩ := List.mem_map.1 hp
    exact (parts_cl he h2 q hq).le (by omega)
  | load n a =>
    simp only [aOp] at hr
    split at hr
    · split at hr
      · simp only [Option.map_eq_some_iff] at hr
        obtain ⟨cs, h1, rfl⟩ := hr
        exact .pure H (by show Cl _ (refsL cs); exact rdN_cl H h1)
      · simp only [Option.map_eq_some_iff] at hr
        obtain ⟨cs, h1, rfl⟩ := hr
        exact .pure H (rd1_cl H h1)
    · cases hr
  | store n a x =>
    obtain ⟨h1, h2⟩ := refsL_nil hc
    simp only [aOp] at hr
    split at hr
    · split at hr
      · split at hr
        · cases hr
          rename_i hb _
          exact .write H hb (cells_cl (av_cl he h2)) row_write_cl (undef_cl _)
        · cases hr
      · cases hr
    · cases hr
  | nilCheck x =>
    have hx := av_cl he (x := x) hc
    simp only [aOp] at hr
    split at hr <;> cases hr <;> rename_i heq <;> rw [heq] at hx <;> exact .pure H hx
  | bin op x y =>
    simp only [aOp, Option.map_eq_some_iff] at hr
    obtain ⟨v, hv, rfl⟩ := hr
    exact .pure H (by rw [aBin_cl hv]; exact Cl.nil _)
  | binB op x y =>
    simp only [aOp, Option.map_eq_some_iff] at hr
    obtain ⟨v, hv, rfl⟩ := hr
    exact .pure H (by rw [aBinB_cl hv]; exact Cl.nil _)
  | eqAgg ks ne x y =>
    simp only [aOp, Option.map_eq_some_iff] at hr
    obtain ⟨v, hv, rfl⟩ := hr
    exact .pure H (by rw [aEqAgg_cl hv]; exact Cl.nil _)
  | isNil ne x =>
    simp only [aOp] at hr
    split at hr <;> cases hr
    exact .pure H (bool_cl _ _)
  | un op x =>
    simp only [aOp, Option.map_eq_some_iff] at hr
    obtain ⟨v, hv, rfl⟩ := hr
    exact .pure H (by rw [aUn_cl hv]; exact Cl.nil _)
  | conv k x =>
    simp only [aOp] at hr
    split at hr <;> cases hr
    exact .pure H (int_cl _ _ _)
  | bytesStr x =>
    simp only [aOp] at hr
    split at hr
    · cases hr
      exact .pure H (str_cl _ _)
    · split at hr
      · split at hr <;> cases hr
        exact .pure H (str_cl _ _)
      · cases hr
    · cases hr
  | mkFn f cap =>
    simp only [aOp] at hr; cases hr
    exact .pure H (by show Cl _ (refsL _); exact avs_cl he hc)
  | mkMap ag ks =>
    simp only [aOp] at hr; cases hr
    exact .push H (k := .map ag ks []) (fun p hp => by cases hp) (by intro b hb; simp [refs] at hb; omega)
  | mkSl zs bytes len cap =>
    obtain ⟨h1, h2⟩ := refsL_nil hc
    obtain ⟨h0, h1⟩ := refsL_nil h1
    simp only [aOp] at hr
    split at hr
    · split at hr <;> cases hr
      refine .push H (k := .row false _) ?_ (sl_cl (by simp))
      show Cl _ (refsL _)
      refine (zs_cl (n := h.length + 1) h0).sub fun v hv => ?_
      obtain ⟨l, hl, hv⟩ := List.mem_flatten.1 hv
      rw [List.eq_of_mem_replicate hl] at hv
      exact hv
    · cases hr
  | slice size x lo hi =>
    obtain ⟨h1, h2⟩ := refsL_nil hc
    obtain ⟨h0, h1⟩ := refsL_nil h1
    have hx := av_cl he (x := x) h0
    simp only [aOp] at hr
    split at hr
    · rename_i heq
      rw [heq] at hx
      split at hr
      · split at hr
        · split at hr <;> cases hr
          exact .pure H (slO_cl (fun _ => rfl) hx)
        · cases hr
      · cases hr
    · cases hr
  | sliceS x lo hi =>
    simp only [aOp] at hr
    split at hr
    · split at hr
      · split at hr <;> cases hr
        exact .pure H (str_cl _ _)
      · cases hr
    · cases hr
  | sliceA n size x =>
    have hx := av_cl he (x := x) hc
    simp only [aOp] at hr
    split at hr
    · rename_i heq
      rw [heq] at hx
      split at hr <;> cases hr
      exact .pure H (sl_cl (ptr_lt hx))
    · cases hr
  | slice3 size x lo hi mx =>
    obtain ⟨h1, h2⟩ := refsL_nil hc
    obtain ⟨h1, h3⟩ := refsL_nil h1
    obtain ⟨h0, h1⟩ := refsL_nil h1
    have hx := av_cl he (x := x) h0
    simp only [aOp] at hr
    split at hr
    · rename_i heq
      rw [heq] at hx
      split at hr
      · split at hr <;> cases hr
        exact .pure H (slO_cl (fun _ => rfl) hx)
      · cases hr
    · cases hr
  | field n off x =>
    have hx := av_cl he (x := x) hc
    simp only [aOp] at hr
    split at hr
    · rename_i heq
      rw [heq] at hx
      simp only [Option.map_eq_some_iff] at hr
      obtain ⟨v, hv, rfl⟩ := hr
      exact .pure H (aPart_cl hv hx)
    · cases hr
  | fieldAddr off x =>
    have hx := av_cl he (x := x) hc
    simp only [aOp] at hr
    split at hr <;> cases hr
    rename_i heq
    rw [heq] at hx
    exact .pure H (ptr_cl (ptr_lt hx))
  | idxArr len size x i =>
    obtain ⟨h1, h2⟩ := refsL_nil hc
    have hx := av_cl he (x := x) h1
    simp only [aOp] at hr
    split at hr
    · rename_i heq _
      rw [heq] at hx
      split at hr <;> cases hr
      exact .pure H (ptr_cl (ptr_lt hx))
    · cases hr
  | idxSl size x i =>
    obtain ⟨h1, h2⟩ := refsL_nil hc
    have hx := av_cl he (x := x) h1
    simp only [aOp] at hr
    split at hr
    · rename_i heq _
      rw [heq] at hx
      split at hr <;> cases hr
      have hlt := sl_lt hx; exact .pure H (ptr_cl hlt)
    · cases hr
  | index len size n x i =>
    obtain ⟨h1, h2⟩ := refsL_nil hc
    have hx := av_cl he (x := x) h1
    simp only [aOp] at hr
    split at hr
    · rename_i heq _
      rw [heq] at hx
      split at hr
      · simp only [Option.map_eq_some_iff] at hr
        obtain ⟨v, hv, rfl⟩ := hr
        exact .pure H (aPart_cl hv hx)
      · cases hr
    · cases hr
  | indexS x i =>
    simp only [aOp] at hr
    split at hr
    · split at hr <;> cases hr
      exact .pure H (int_cl _ _ _)
    · cases hr
  | lookup ag ks z m k ok =>
    have hz : Cl h.length (refs z) := Cl.mem (cs := opCs (.lookup ag ks z m k ok)) (zs_cl hc) (by simp [opCs])
    have two : ∀ (v : AV) (b : Bool), Cl h.length (refs v) → Cl h.length (refs (if ok then .tup [v, .bool b] else v)) := by
      intro v b hv
      split
      · simpa [refs, refsL] using hv
      · exact hv
    simp only [aOp] at hr
    split at hr
    · split at hr
      · cases hr
        exact .pure H (two _ _ hz)
      · split at hr
        · rename_i hb
          split at hr
          · split at hr
            · cases hr
              rename_i i v hf
              obtain ⟨y, hy⟩ := aFind_mem hf
              exact .pure H (two _ _ ((H.at hb) _ hy).2)
            · cases hr
              exact .pure H (two _ _ hz)
          · cases hr
        · cases hr
      · cases hr
    · cases hr
  | mapUpd ag ks m k x =>
    obtain ⟨h1, h2⟩ := refsL_nil hc
    obtain ⟨h0, h1⟩ := refsL_nil h1
    simp only [aOp] at hr
    split at hr
    · rename_i hsh
      have hk0 : refs (av e k) = [] := by
        have aux : ∀ ks cs, shapeL ks cs = true → refsL cs = [] := by
          intro ks
          induction ks with
          | nil => intro cs hs; cases cs <;> simp_all [shapeL, refsL]
          | cons q ks ih =>
            intro cs hs
            cases cs with
            | nil => simp [shapeL] at hs
            | cons c cs =>
              simp only [shapeL, Bool.and_eq_true] at hs
              simp only [refsL, ih cs hs.2, List.append_nil]
              have := hs.1
              unfold shape1 at this
              split at this <;> simp_all [refs]
        cases hv : av e k with
        | agg cs =>
          rw [hv] at hsh
          simp only [shapeK, Bool.and_eq_true] at hsh
          exact aux _ _ hsh.2
        | _ =>
          rw [hv] at hsh
          simp only [shapeK, Bool.and_eq_true] at hsh
          have := aux _ _ hsh.2
          simpa [refsL] using this
      split at hr
      · split at hr
        · rename_i hb
          split at hr
          · split at hr <;> cases hr
            · refine .write H hb (k' := .map _ _ _) (new := [av e x]) (by simpa [refsL] using av_cl he h2) (fun n h1 h3 p hp => ?_) (undef_cl _)
              rcases List.mem_or_eq_of_mem_set hp with hp | rfl
              · exact h1 p hp
              · exact ⟨by rw [hk0]; exact Cl.nil n, by simpa [refsL] using h3⟩
            · refine .write H hb (k' := .map _ _ _) (new := [av e x]) (by simpa [refsL] using av_cl he h2) (fun n h1 h3 p hp => ?_) (undef_cl _)
              rcases List.mem_append.1 hp with hp | hp
              · exact h1 p hp
              · simp at hp; subst hp
                exact ⟨by rw [hk0]; exact Cl.nil n, by simpa [refsL] using h3⟩
          · cases hr
        · cases hr
      · cases hr
    · cases hr
  | extract x i =>
    have hx := av_cl he (x := x) hc
    simp only [aOp] at hr
    split at hr
    · rename_i heq
      rw [heq] at hx
      simp only [Option.map_eq_some_iff] at hr
      obtain ⟨v, hv, rfl⟩ := hr
      exact .pure H (Cl.mem hx (List.mem_of_getElem? hv))
    · cases hr
  | call f args =>
    simp only [aOp, Option.map_eq_some_iff] at hr
    obtain ⟨q, hq, rfl⟩ := hr
    exact hcall _ _ _ _ hq (avs_cl he hc) H
  | callV f args =>
    obtain ⟨h1, h2⟩ := refsL_nil hc
    have hx := av_cl he (x := f) h1
    simp only [aOp] at hr
    split at hr
    · rename_i heq
      rw [heq] at hx
      simp only [Option.map_eq_some_iff] at hr
      obtain ⟨q, hq, rfl⟩ := hr
      exact hcall _ _ _ _ hq (Cl.append (avs_cl he h2) hx) H
    · simp only [Option.map_eq_some_iff] at hr
      obtain ⟨q, hq, rfl⟩ := hr
      exact hcall _ _ _ _ hq (avs_cl he h2) H
    · cases hr
  | len x =>
    simp only [aOp] at hr
    split at hr <;> cases hr
    exact .pure H (int_cl _ _ _)
  | lenS x =>
    simp only [aOp] at hr
    split at hr <;> cases hr
    exact .pure H (int_cl _ _ _)
  | mx xs =>
    have hx := avs_cl he (xs := xs) hc
    simp only [aOp] at hr
    split at hr
    · rename_i heq
      rw [heq] at hx
      simp only [Option.map_eq_some_iff] at hr
      obtain ⟨v, hv, rfl⟩ := hr
      exact .pure H (foldO_cl aMax_cl hv (hx.mem (by simp)))
    · cases hr
  | mn xs =>
    have hx := avs_cl he (xs := xs) hc
    simp only [aOp] at hr
    split at hr
    · rename_i heq
      rw [heq] at hx
      simp only [Option.map_eq_some_iff] at hr
      obtain ⟨v, hv, rfl⟩ := hr
      exact .pure H (foldO_cl aMin_cl hv (hx.mem (by simp)))
    · cases hr
  | append size bytes s x =>
    obtain ⟨h1, h2⟩ := refsL_nil hc
    have hx := av_cl he (x := s) h1
    simp only [aOp] at hr
    split at hr
    · rename_i heq _
      rw [heq] at hx
      split at hr
      · cases hr
      · rename_i new acc hsl
        have hn := slCells_cl H hsl
        split at hr
        · cases hr
          exact .pure H hx
        · split at hr
          · split at hr
            · cases hr
              exact .push H (k := .row false new) (hn.le (by omega)) (sl_cl (by simp))
            · have hlt := sl_lt hx
              split at hr
              · rename_i hb
                split at hr
                · split at hr
                  · split at hr
                    · split at hr <;> cases hr
                      exact .write H hb hn row_write_cl (sl_cl hlt)
                    · split at hr
                      · split at hr <;> cases hr
                        · exact .write H hb (k' := .row false _) hn (fun n h1 h2 => Cl.append (Cl.sub h1 fun v hv => List.mem_of_mem_take hv) h2) (sl_cl hlt)
                        · refine .push H (k := .row false _) ?_ (sl_cl (by simp))
                          refine Cl.append (Cl.le (n := h.length) ?_ (by omega)) (hn.le (by omega))
                          exact (show Cl h.length (refsL _) from H.at hb).sub fun v hv => List.mem_of_mem_drop (List.mem_of_mem_take hv)
                      · cases hr
                  · split at hr <;> cases hr
                    exact .write H hb (k' := .row false _) hn (fun n h1 h2 => Cl.append h1 h2) (sl_cl hlt)
                · cases hr
              · cases hr
          · cases hr
    · cases hr
  | copy size d s =>
    obtain ⟨h1, h2⟩ := refsL_nil hc
    simp only [aOp] at hr
    split at hr
    · split at hr
      · cases hr
      · rename_i new acc hsl
        have hn := slCells_cl H hsl
        split at hr
        · rename_i hb
          split at hr <;> cases hr
          exact .write H hb hn row_write_cl (int_cl _ _ _)
        · cases hr
    · cases hr

end Go.Proofs.Ytocoadpepofbbaa.AM

/-
  CLOSEDNESS of the code, of compaction and of calls.
-/
set_option linter.unusedVariables false
set_option linter.unusedSimpArgs false
namespace Go.Proofs.Ytocoadpepofbbaa.AM
open Go

theorem mem_addAll {x : Nat} : ∀ {xs l : List Nat}, x ∈ addAll l xs ↔ x ∈ l ∨ x ∈ xs
  | [], l => by simp [addAll]
  | y :: xs, l => by
    simp only [addAll]
    rw [mem_addAll (xs := xs)]
    split
    · rename_i hy
      constructor
      · rintro (h | h)
        · exact .inl h
        · exact .inr (by simp [h])
      · rintro (h | h)
        · exact .inl h
        · rcases List.mem_cons.1 h with rfl | h
          · exact .inl hy
          · exact .inr h
    · simp only [List.mem_append, List.mem_cons, List.not_mem_nil, or_false, or_assoc]

/-- The reference from low to high that 'lk' notes crosses 'lo'. -/
def Cross (lo : Nat) : Option (Nat × Nat) → Prop
  | some (b, r) => b < lo ∧ lo ≤ r
  | none => False
theorem adj_cross {lo : Nat} {lk : Option (Nat × Nat)} {n : Nat} (h : Cross lo lk) : adj lo lk n = n := by
  cases lk with
  | none => exact h.elim
  | some p => obtain ⟨b, r⟩ := p; simp only [Cross] at h; simp [adj, h]
theorem adj_not {lo : Nat} {lk : Option (Nat × Nat)} {n : Nat} (h : ¬Cross lo lk) : adj lo lk n = lo := by
  cases lk with
  | none => rfl
  | some p => obtain ⟨b, r⟩ := p; simp only [Cross] at h; simp [adj, h]
theorem cross_mrg {lo : Nat} {x y : Option (Nat × Nat)} (h : Cross lo x ∨ Cross lo y) : Cross lo (mrg x y) := by
  cases x with
  | none =>
    rcases h with h | h
    · exact h.elim
    · exact h
  | some p =>
    cases y with
    | none =>
      rcases h with h | h
      · exact h
      · exact h.elim
    | some q =>
      obtain ⟨b, r⟩ := p
      obtain ⟨c, s⟩ := q
      simp only [Cross, mrg] at h ⊢
      omega
theorem cross_cut {lo base : Nat} (hle : lo ≤ base) {x : Option (Nat × Nat)} (h : Cross lo x) : Cross lo (cut base x) := by
  cases x with
  | none => exact h.elim
  | some p =>
    obtain ⟨b, r⟩ := p
    simp only [Cross] at h
    simp only [cut]
    rw [if_pos (by omega)]
    exact h

structure SCl (W : List Nat) (h0 : List ABlk) (s : St) : Prop where
  len : h0.length ≤ s.h.length
  e : Cl s.h.length (refsL s.e)
  hh : HCl s.h.length s.h
  lo : h0.length ≤ s.lo ∧ s.lo ≤ s.h.length
  hlo : HCl s.lo s.h
  old : ∀ lo, lo ≤ h0.length → HCl lo h0 → HCl (adj lo s.lk s.h.length) s.h
  keep : ∀ b : Nat, b < h0.length → b ∉ s.wr → s.h[b]? = h0[b]?
  sub : ∀ b ∈ W, b ∈ s.wr

theorem SCl.start {h : List ABlk} (H : HCl h.length h) {e : List AV} (he : Cl h.length (refsL e)) : SCl [] h ⟨e, h, h.length, [], none⟩ :=
  ⟨Nat.le_refl _, he, H, ⟨Nat.le_refl _, Nat.le_refl _⟩, H, fun lo _ h => h, fun _ _ _ => rfl, fun b hb => by cases hb⟩

theorem SCl.step {W : List Nat} {h0 : List ABlk} {s : St} (S : SCl W h0 s) {v : AV} {h' : List ABlk} {wr : List Nat} {lk : Option (Nat × Nat)} (O : OpCl s.h v h' wr lk) {e' : List AV} (he : Cl h'.length (refsL e')) :
    SCl W h0 ⟨e', h', adj s.lo lk h'.length, addAll s.wr (wr.filter (· < h0.length)), mrg s.lk (cut h0.length lk)⟩ := by
  have hlo := adj_le (lo := s.lo) (lk := lk) (n := h'.length) (Nat.le_trans S.lo.2 O.len)
  refine ⟨Nat.le_trans S.len O.len, he, O.hh, ⟨Nat.le_trans S.lo.1 hlo.1, hlo.2⟩, O.lo _ S.lo.2 S.hlo, ?_, ?_, fun b hb => mem_addAll.2 (.inl (S.sub b hb))⟩
  · intro lo hle hlo0
    show HCl (adj lo (mrg s.lk (cut h0.length lk)) h'.length) h'
    by_cases hc : Cross lo (mrg s.lk (cut h0.length lk))
    · rw [adj_cross hc]; exact O.hh
    · rw [adj_not hc]
      have h1 : ¬Cross lo s.lk := fun h => hc (cross_mrg (.inl h))
      have h2 : ¬Cross lo lk := fun h => hc (cross_mrg (.inr (cross_cut hle h)))
      have h3 := S.old lo hle hlo0
      rw [adj_not h1] at h3
      have h4 := O.lo lo (Nat.le_trans hle S.len) h3
      rw [adj_not h2] at h4
      exact h4
  · intro b hb hn
    have h1 : b ∉ s.wr := fun h => hn (mem_addAll.2 (.inl h))
    have h2 : b ∉ wr := fun h => hn (mem_addAll.2 (.inr (by simp [h, hb])))
    show h'[b]? = h0[b]?
    rw [O.keep b (Nat.lt_of_lt_of_le hb S.len) h2, S.keep b hb h1]

/-- A loop's record is written. -/
theorem SCl.loopSet {W : List Nat} {h0 : List ABlk} {s : St} (S : SCl W h0 s) {l : Nat} {lp lp' : ALoop} (hl : s.h[l]? = some (.loop lp)) (he : lp'.e = lp.e) (ha : lp'.assign = lp.assign) (hb : lp'.body = lp.body)
    {wr : List Nat} (hwr : ∀ b ∈ s.wr, b ∈ wr) (hlw : l < h0.length → l ∈ wr) : SCl W h0 { s with h := s.h.set l (.loop lp'), wr := wr } := by
  have hlt := lt_of_get hl
  have hset : ∀ n, HCl n s.h → HCl n (s.h.set l (.loop lp')) := by
    intro n hn b k hk hb'
    by_cases e : l = b
    · subst e
      rw [List.getElem?_set_self hlt] at hk
      cases hk
      have := hn _ _ hl hb'
      simp only [BCl] at this ⊢
      rw [he, ha, hb]; exact this
    · rw [List.getElem?_set_ne e] at hk
      exact hn b k hk hb'
  refine ⟨by simpa using S.len, by simpa using S.e, by simpa using hset _ S.hh, by simpa using S.lo, hset _ S.hlo, ?_, ?_, fun b hb => hwr _ (S.sub b hb)⟩
  · intro lo hle h
    simpa using hset _ (S.old lo hle h)
  · intro b hb' hn
    have h1 : b ∉ s.wr := fun h => hn (hwr _ h)
    show (s.h.set l (.loop lp'))[b]? = h0[b]?
    rw [List.getElem?_set_ne (fun e => hn (by subst e; exact hlw hb')), S.keep b hb' h1]

theorem dst_cl {n : Nat} {e : List AV} (he : Cl n (refsL e)) {d : Option Nat} {v : AV} (hv : Cl n (refs v)) : Cl n (refsL (match d with | some d => eset e d v | none => e)) := by
  cases d with
  | none => exact he
  | some d => exact eset_cl hv he

section
variable {call : Tgt → List AV → List ABlk → Option Ret} (hcall : CallCl call)
include hcall

theorem stepOp_cl {W : List Nat} {h0 : List ABlk} {o : AOper} {s s' : St} {f : FP} (h : stepOp call h0.length o s = some (s', f)) (hc : clOp o.op = true) (S : SCl W h0 s) : SCl W h0 s' := by
  simp only [stepOp] at h
  split at h
  · split at h
    · rename_i r hr
      cases h
      have O := aOp_cl hcall hr S.e S.hh hc
      exact S.step O (dst_cl (S.e.le O.len) O.v)
    · cases h
  · cases h
    exact ⟨S.len, dst_cl S.e (undef_cl _), S.hh, S.lo, S.hlo, S.old, S.keep, S.sub⟩

theorem runOps_cl {W : List Nat} {h0 : List ABlk} : ∀ {ops : List AOper} {s s' : St}, runOps call h0.length ops s = some s' → (ops.all fun o => clOp o.op) = true → SCl W h0 s → SCl W h0 s'
  | [], s, s', h, _, S => by simp [runOps] at h; subst h; exact S
  | o :: os, s, s', h, hc, S => by
    simp only [List.all_cons, Bool.and_eq_true] at hc
    simp only [runOps] at h
    split at h
    · rename_i s1 f hs
      exact runOps_cl h hc.2 (stepOp_cl hcall hs hc.1 S)
    · cases h
omit hcall in
theorem runOpsF_runOps {base : Nat} : ∀ {ops : List AOper} {s s' : St} {fs : List FP}, runOpsF call base ops s = some (s', fs) → runOps call base ops s = some s'
  | [], s, s', fs, h => by simp [runOpsF] at h; simp [runOps, h.1]
  | o :: os, s, s', fs, h => by
    simp only [runOpsF] at h
    simp only [runOps]
    split at h
    · rename_i s1 f hs
      split at h
      · rename_i s2 fs2 h2
        cases h
        exact runOpsF_runOps h2
      · cases h
    · cases h

omit hcall in
theorem push1_cl {W : List Nat} {h0 : List ABlk} {s : St} (S : SCl W h0 s) {k : ABlk} (hk : BCl (s.h.length + 1) k) : SCl W h0 { s with h := s.h ++ [k] } := by
  have O := OpCl.push S.hh hk (undef_cl _)
  have S1 := S.step O (e' := s.e) (S.e.le O.len)
  have hm : mrg s.lk (cut h0.length none) = s.lk := by cases s.lk <;> rfl
  rw [hm] at S1
  simpa [adj, addAll] using S1

omit hcall in
theorem OpCl.sub {h1 h h' : List ABlk} {v : AV} {wr : List Nat} {lk : Option (Nat × Nat)} {k : List ABlk} (O : OpCl (h ++ k) v h' wr lk) (hk : ∀ lo, lo ≤ h.length → HCl lo h → HCl lo (h ++ k)) : OpCl h v h' wr lk :=
  ⟨Nat.le_trans (by simp) O.len, O.v, O.hh, fun b hb hn => by rw [O.keep b (by simp; omega) hn, List.getElem?_append_left hb], fun lo hle hlo => O.lo lo (by simp; omega) (hk lo hle hlo)⟩

theorem exec_cl {W : List Nat} {h0 : List ABlk} {N : Nat} {inR : Bool} : ∀ (c : ACode) {s s' : St} {x : AExit}, exec call N h0.length inR c s = some (x, s') → okCode c = true → SCl W h0 s → SCl W h0 s'
  | .skip, s, s', x, h, _, S => by simp [exec] at h; exact h.2 ▸ S
  | .region ops chk draw, s, s', x, h, hc, S => by
    simp only [exec] at h
    split at h
    · split at h
      · rename_i s1 fs hs
        split at h <;> cases h
        exact runOps_cl hcall (runOpsF_runOps hs) hc S
      · cases h
    · split at h
      · rename_i s1 hs
        cases h
        exact runOps_cl hcall hs hc S
      · cases h
  | .seq a b, s, s', x, h, hc, S => by
    simp only [okCode, Bool.and_eq_true] at hc
    simp only [exec] at h
    split at h
    · rename_i s1 h1
      exact exec_cl b h hc.2 (exec_cl a h1 hc.1 S)
    · rename_i hne
      exact exec_cl a h hc.1 S
  | .cond c t e, s, s', x, h, hc, S => by
    simp only [okCode, Bool.and_eq_true] at hc
    simp only [exec] at h
    split at h
    · exact exec_cl t h hc.1 S
    · exact exec_cl e h hc.2 S
    · cases h
  | .block id b, s, s', x, h, hc, S => by
    simp only [exec] at h
    split at h
    · rename_i i s1 h1
      have := exec_cl b h1 hc S
      split at h <;> (cases h; exact this)
    · exact exec_cl b h hc S
  | .loop b, s, s', x, h, hc, S => by
    have hb : ∀ {s s' : St} {x : AExit}, exec call N h0.length inR b s = some (x, s') → SCl W h0 s → SCl W h0 s' := fun h S => exec_cl b h hc S
    simp only [exec] at h
    have key : ∀ n (s : St), iter (exec call N h0.length inR b) n s = some (x, s') → SCl W h0 s → SCl W h0 s' := by
      intro n
      induction n with
      | zero => intro s h; simp [iter] at h
      | succ n ih =>
        intro s h S
        simp only [iter] at h
        split at h
        · rename_i s1 h1
          exact ih s1 h (hb h1 S)
        · exact hb h S
    exact key N s h S
  | .exit id, s, s', x, h, _, S => by simp [exec] at h; exact h.2 ▸ S
  | .ret, s, s', x, h, _, S => by simp [exec] at h; exact h.2 ▸ S
  | .rangeF f params assign body, s, s', x, h, hc, S => by
    simp only [okCode, Bool.and_eq_true] at hc
    obtain ⟨⟨hc0, hc1⟩, hc2⟩ := hc
    simp only [exec] at h
    split at h
    · cases h
    generalize hh1 : s.h ++ [ABlk.defr] = h1 at h
    have hS1 : SCl W h0 { s with h := h1 } ∧ ∃ k, h1 = s.h ++ k := by
      subst hh1
      exact ⟨push1_cl S trivial, [.defr], rfl⟩
    obtain ⟨S1, k1, hk1⟩ := hS1
    have S2 : SCl W h0 { s with h := h1 ++ [.loop ⟨.ready, none, s.e, params, assign, body⟩] } :=
      push1_cl (s := { s with h := h1 }) S1 (k := .loop ⟨.ready, none, s.e, params, assign, body⟩) ⟨S1.e.le (by simp), hc1, hc2⟩
    split at h
    · rename_i g cap hg
      split at h
      · rename_i r hr
        have hcap : Cl s.h.length (refsL cap) := by
          have := av_cl S.e (x := f) (by simpa using hc0)
          rw [hg] at this
          exact this
        have O := hcall _ _ _ _ hr (by
          intro b hb
          simp only [refsL, refs, List.singleton_append, List.mem_cons] at hb
          rcases hb with rfl | hb
          · simp
          · have := hcap b hb; subst hk1; simp; omega) S2.hh
        split at h
        · rename_i lp hl
          have S3 := S2.step O (e' := s.e) (S2.e.le O.len)
          split at h
          · cases h
          · have S4 : SCl W h0 ⟨s.e, r.h.set h1.length (.loop { lp with st := .exhausted }), adj s.lo r.lk r.h.length, addAll s.wr (r.wr.filter (· < h0.length)), mrg s.lk (cut h0.length r.lk)⟩ :=
              S3.loopSet (lp' := { lp with st := .exhausted }) hl rfl rfl rfl (fun b hb => hb) (fun hlt => by
                have := S1.len
                simp only at this
                omega)
            split at h <;> (cases h; exact S4)
        · cases h
      · cases h
    · cases h
end

/-! ### compaction -/
mutual
theorem ren_refs {ρ : Nat → Option Nat} : ∀ {v v' : AV}, ren ρ v = some v' → ∀ b' ∈ refs v', ∃ b ∈ refs v, ρ b = some b'
  | .int k n, v', h, b', hb => by simp [ren] at h; subst h; simp [refs] at hb
  | .bool b, v', h, b', hb => by simp [ren] at h; subst h; simp [refs] at hb
  | .str s, v', h, b', hb => by simp [ren] at h; subst h; simp [refs] at hb
  | .ptr none, v', h, b', hb => by simp [ren] at h; subst h; simp [refs] at hb
  | .ptr (some a), v', h, b', hb => by
    simp only [ren] at h
    split at h
    · rename_i b hρ
      cases h
      simp [refs] at hb
      subst hb
      exact ⟨a.b, by simp [refs], hρ⟩
    · cases h
  | .sl none l c, v', h, b', hb => by simp [ren] at h; subst h; simp [refs] at hb
  | .sl (some a) l c, v', h, b', hb => by
    simp only [ren] at h
    split at h
    · rename_i b hρ
      cases h
      simp [refs] at hb
      subst hb
      exact ⟨a.b, by simp [refs], hρ⟩
    · cases h
  | .map none, v', h, b', hb => by simp [ren] at h; subst h; simp [refs] at hb
  | .map (some r), v', h, b', hb => by
    simp only [ren] at h
    split at h
    · rename_i b hρ
      cases h
      simp [refs] at hb
      subst hb
      exact ⟨r, by simp [refs], hρ⟩
    · cases h
  | .fn f cs, v', h, b', hb => by
    simp only [ren] at h
    split at h
    · rename_i cs' hcs
      cases h
      simp only [refs] at hb ⊢
      exact renL_refs hcs b' hb
    · cases h
  | .yld l, v', h, b', hb => by
    simp only [ren] at h
    split at h
    · rename_i b hρ
      cases h
      simp [refs] at hb
      subst hb
      exact ⟨l, by simp [refs], hρ⟩
    · cases h
  | .nilFn, v', h, b', hb => by simp [ren] at h; subst h; simp [refs] at hb
  | .agg cs, v', h, b', hb => by
    simp only [ren] at h
    split at h
    · rename_i cs' hcs
      cases h
      simp only [refs] at hb ⊢
      exact renL_refs hcs b' hb
    · cases h
  | .tup cs, v', h, b', hb => by
    simp only [ren] at h
    split at h
    · rename_i cs' hcs
      cases h
      simp only [refs] at hb ⊢
      exact renL_refs hcs b' hb
    · cases h
theorem renL_refs {ρ : Nat → Option Nat} : ∀ {cs cs' : List AV}, renL ρ cs = some cs' → ∀ b' ∈ refsL cs', ∃ b ∈ refsL cs, ρ b = some b'
  | [], cs', h, b', hb => by simp [renL] at h; subst h; simp [refsL] at hb
  | v :: vs, cs', h, b', hb => by
    simp only [renL] at h
    split at h
    · rename_i u us hu hus
      cases h
      simp only [refsL, List.mem_append] at hb ⊢
      rcases hb with hb | hb
      · obtain ⟨b, h1, h2⟩ := ren_refs hu b' hb
        exact ⟨b, .inl h1, h2⟩
      · obtain ⟨b, h1, h2⟩ := renL_refs hus b' hb
        exact ⟨b, .inr h1, h2⟩
    · cases h
end

theorem idx_spec {lo : Nat} : ∀ {k : List Nat} {b i : Nat}, idx lo k b = some i → lo ≤ i ∧ i < lo + k.length ∧ k[i - lo]? = some b
  | [], b, i, h => by simp [idx] at h
  | x :: xs, b, i, h => by
    simp only [idx] at h
    split at h
    · rename_i e
      cases h
      simp [e]
    · obtain ⟨h1, h2, h3⟩ := idx_spec h
      refine ⟨by omega, by simp; omega, ?_⟩
      rw [show i - lo = (i - (lo + 1)) + 1 by omega]
      simpa using h3
theorem renBlks_spec {ρ : Nat → Option Nat} {h : List ABlk} : ∀ {bs : List Nat} {ks : List ABlk}, renBlks ρ h bs = some ks →
    ks.length = bs.length ∧ ∀ (i : Nat) (k' : ABlk), ks[i]? = some k' → ∃ b k, bs[i]? = some b ∧ h[b]? = some k ∧ renBlk ρ k = some k'
  | [], ks, hr => by simp [renBlks] at hr; subst hr; simp
  | b :: bs, ks, hr => by
    simp only [renBlks] at hr
    split at hr
    · rename_i k hk
      split at hr
      · rename_i k' ks' hk' hks
        cases hr
        obtain ⟨h1, h2⟩ := renBlks_spec hks
        refine ⟨by simp [h1], fun i k1 hi => ?_⟩
        cases i with
        | zero => simp at hi; subst hi; exact ⟨b, k, rfl, hk, hk'⟩
        | succ i => simpa using h2 i k1 (by simpa using hi)
      · cases hr
    · cases hr

theorem renE_cl {ρ : Nat → Option Nat} {n : Nat} (hρ : ∀ b b', ρ b = some b' → b' < n) : ∀ {es es' : List (AV × AV)}, renE ρ es = some es' → ∀ p ∈ es', Cl n (refs p.1) ∧ Cl n (refs p.2)
  | [], es', h, p, hp => by simp [renE] at h; subst h; cases hp
  | (k, v) :: es, es', h, p, hp => by
    simp only [renE] at h
    split at h
    · rename_i k' v' es'' hk hv hes
      cases h
      rcases List.mem_cons.1 hp with rfl | hp
      · exact ⟨fun b hb => let ⟨c, _, h2⟩ := ren_refs hk b hb; hρ _ _ h2, fun b hb => let ⟨c, _, h2⟩ := ren_refs hv b hb; hρ _ _ h2⟩
      · exact renE_cl hρ hes p hp
    · cases h
theorem renBlk_cl {ρ : Nat → Option Nat} {n : Nat} (hρ : ∀ b b', ρ b = some b' → b' < n) {k k' : ABlk} (h : renBlk ρ k = some k') : BCl n k' := by
  cases k with
  | row ro cs =>
    simp only [renBlk] at h
    split at h <;> cases h
    rename_i cs' hcs
    exact fun b hb => let ⟨c, _, h2⟩ := renL_refs hcs b hb; hρ _ _ h2
  | map ag ks es =>
    simp only [renBlk] at h
    split at h <;> cases h
    rename_i es' hes
    exact renE_cl hρ hes
  | defr => simp [renBlk] at h
  | loop lp => simp [renBlk] at h

theorem gc_cl {lo : Nat} {v v' : AV} {h h' : List ABlk} (hg : gc lo v h = some (v', h')) (hlo : lo ≤ h.length) (H : HCl lo h) :
    lo ≤ h'.length ∧ Cl h'.length (refs v') ∧ HCl h'.length h' ∧ ∀ b : Nat, b < lo → h'[b]? = h[b]? := by
  simp only [gc] at hg
  generalize hk : dd [] _ = k at hg
  split at hg
  · rename_i v1 ks hv hks
    cases hg
    obtain ⟨h1, h2⟩ := renBlks_spec hks
    have hlen : (h.take lo ++ ks).length = lo + k.length := by simp [h1]; omega
    have hρ : ∀ b b', (if b < lo then some b else idx lo k b) = some b' → b' < lo + k.length := by
      intro b b' h
      split at h
      · cases h; omega
      · exact (idx_spec h).2.1
    refine ⟨by omega, ?_, ?_, ?_⟩
    · rw [hlen]
      intro b hb
      obtain ⟨c, _, h4⟩ := ren_refs hv b hb
      exact hρ _ _ h4
    · intro b k' hk' _
      rw [hlen]
      by_cases hb : b < lo
      · rw [List.getElem?_append_left (by simp; omega), List.getElem?_take_of_lt hb] at hk'
        exact (H b k' hk' hb).le (by omega)
      · rw [List.getElem?_append_right (by simp; omega)] at hk'
        obtain ⟨c, k2, _, _, h5⟩ := h2 _ _ hk'
        exact renBlk_cl hρ h5
    · intro b hb
      rw [List.getElem?_append_left (by simp; omega), List.getElem?_take_of_lt hb]
  · cases hg

theorem gcD_inv {base lo : Nat} {v : AV} {h : List ABlk} {p : AV × List ABlk} (hg : gcD base lo v h = some p) : okDefr base lo h = true ∧ gc lo v h = some p := by
  unfold gcD at hg
  split at hg
  · exact ⟨‹_›, hg⟩
  · cases hg

/-- What a call leaves, closed. -/
theorem SCl.ret {W : List Nat} {h0 : List ABlk} {s : St} (S : SCl W h0 s) {v v' : AV} {h' : List ABlk} (hg : gc s.lo v s.h = some (v', h')) : OpCl h0 v' h' s.wr s.lk := by
  obtain ⟨h1, h2, h3, h4⟩ := gc_cl hg S.lo.2 S.hlo
  refine ⟨Nat.le_trans S.lo.1 h1, h2, h3, fun b hb hn => by rw [h4 b (Nat.lt_of_lt_of_le hb S.lo.1), S.keep b hb hn], ?_⟩
  intro lo hle hlo
  by_cases hc : Cross lo s.lk
  · rw [adj_cross hc]; exact h3
  · rw [adj_not hc]
    have := S.old lo hle hlo
    rw [adj_not hc] at this
    intro b k hk hb
    rw [h4 b (by have := S.lo.1; omega)] at hk
    exact this b k hk hb

theorem gc_res {s : St} : ∀ {rs : List ARes} {vs : List AV} , aResL s rs = some vs → True := fun _ => trivial

theorem aCall_cl {pr : FuncId → Option AFunc} (hpr : ∀ f fn, pr f = some fn → okCode fn.body = true) : ∀ n, CallCl (aCall pr n)
  | 0, t, args, h, r, hr, _, _ => by cases t <;> simp [aCall] at hr
  | n + 1, .f f, args, h, r, hr, ha, H => by
    have ih := aCall_cl hpr n
    simp only [aCall] at hr
    split at hr
    · cases hr
    · rename_i fn hfn
      split at hr
      · split at hr
        · cases hr
        · rename_i x s hx hex
          split at hr
          · split at hr
            · rename_i vs hvs v h' hg
              cases hr
              exact (exec_cl ih _ hex (hpr _ _ hfn) (.start H ha)).ret (gcD_inv hg).2
            · cases hr
          · cases hr
        · cases hr
      · cases hr
  | n + 1, .y l, args, h, r, hr, ha, H => by
    have ih := aCall_cl hpr n
    simp only [aCall] at hr
    split at hr
    · rename_i lp hl
      obtain ⟨hB1, hB2, hB3⟩ := H.at hl
      split at hr
      · split at hr
        · rename_i s hex
          have S1 := exec_cl ih _ hex hB2 (.start H (pushTmps_cl hB1 ha))
          split at hr
          · rename_i lp1 hl1
            split at hr
            · have S2 : SCl [l] h { s with h := s.h.set l (.loop { lp1 with st := .busy }), wr := addAll s.wr [l] } := by
                have := S1.loopSet (lp' := { lp1 with st := .busy }) hl1 rfl rfl rfl (wr := addAll s.wr [l]) (fun b hb => mem_addAll.2 (.inl hb)) (fun _ => mem_addAll.2 (.inr (by simp)))
                exact ⟨this.len, this.e, this.hh, this.lo, this.hlo, this.old, this.keep, fun b hb => mem_addAll.2 (.inr hb)⟩
              split at hr
              · rename_i x s2 hex2
                have S3 := exec_cl ih _ hex2 hB3 S2
                split at hr
                · rename_i lp2 hl2
                  split at hr
                  · rename_i v h' hg
                    cases hr
                    have hg := (gcD_inv hg).2
                    refine (S3.loopSet (lp' := { lp2 with st := if x == .normal then .ready else .done, pend := if x == .normal then none else some x }) hl2 rfl rfl rfl (wr := s2.wr) (fun b hb => hb) (fun _ => S3.sub l (by simp))).ret hg
                  · cases hr
                · cases hr
              · cases hr
            · cases hr
          · cases hr
        · cases hr
      · cases hr
    · cases hr

end Go.Proofs.Ytocoadpepofbbaa.AM

/-
  STEPS OF HEAPS THAT ARE GIVEN BLOCK BY BLOCK, with holes: for regions whose operations come in any order.
-/
set_option linter.unusedVariables false
set_option linter.unusedSimpArgs false
namespace Go.Proofs.Ytocoadpepofbbaa.AM
open Go

abbrev HF := Nat → Option ABlk

structure HRelF (P : Program) (B : Nat) (ι : Emb) (h : HF) (w : World) : Prop where
  blk : ∀ (b : Nat) (k : ABlk), h b = some k → BRel P B ι w b k
  dom : ∀ (b g : Nat) (l : Loc), ι b g = some l → l.c < w.heap.size ∧ ∃ k : ABlk, h b = some k ∧ g ≤ bgen k
  inj : ∀ (b b' : Nat) (k k' : ABlk) (l l' : Loc), h b = some k → h b' = some k' → ι b (bgen k) = some l → ι b' (bgen k') = some l' → own k = true → b ≠ b' → l.c ≠ l'.c
  hB : B ≤ w.heap.size

structure ExtF (P : Program) (B : Nat) (ι : Emb) (h : HF) (w : World) (wr : List Nat) (ι' : Emb) (h' : HF) (w' : World) : Prop where
  misc : Misc w w'
  sub : Sub ι ι'
  keep : ∀ b : Nat, h b ≠ none → b ∉ wr → h' b = h b
  gen : ∀ (b : Nat) (k : ABlk), h b = some k → ∃ k', h' b = some k' ∧ bgen k ≤ bgen k' ∧ own k' = own k
  wrl : ∀ b ∈ wr, ∃ k, h b = some k ∧ own k = true
  wrd : ∀ b ∈ wr, ∃ k l, h b = some k ∧ ι b (bgen k) = some l
  dk : ∀ b : Nat, h b = some .defr → h' b = some .defr
  new : ∀ b g l, ι' b g = some l → ι b g = some l ∨
    (∃ k', h' b = some k' ∧ g ≤ bgen k' ∧ l.c < w'.heap.size ∧ ((h b = none ∧ w.heap.size ≤ l.c) ∨
      (b ∈ wr ∧ ∃ k, h b = some k ∧ bgen k < g ∧ (w.heap.size ≤ l.c ∨ ∃ l0, ι b (bgen k) = some l0 ∧ l0.c = l.c))))
  blk : ∀ (b : Nat) (k' : ABlk), h' b = some k' → (h b = none ∨ b ∈ wr) → BRel P B ι' w' b k'
  inj : ∀ (b b' : Nat) (k k' : ABlk) (l l' : Loc), h' b = some k → h' b' = some k' → (h b = none ∨ b ∈ wr) → (h b' = none ∨ b' ∈ wr) → ι' b (bgen k) = some l → ι' b' (bgen k') = some l' → b ≠ b' → l.c ≠ l'.c
  newOwn : ∀ (b : Nat) (k' : ABlk), h' b = some k' → h b = none → own k' = true
  frame : ∀ c, c < w.heap.size → (∀ (b : Nat) (k : ABlk) (l : Loc), b ∈ wr → h b = some k → ι b (bgen k) = some l → l.c ≠ c) → w'.heap[c]? = w.heap[c]?

section
variable {P : Program} {B : Nat} {ι ι' : Emb} {w w' : World} {wr : List Nat}

theorem get_none {h : List ABlk} {b : Nat} : h[b]? = none ↔ h.length ≤ b := by simp
theorem HRel.toF {h : List ABlk} (H : HRel P B ι h w) : HRelF P B ι (fun b => h[b]?) w := ⟨H.blk, H.dom, H.inj, H.hB⟩
theorem HRelF.toL {h : List ABlk} (H : HRelF P B ι (fun b => h[b]?) w) : HRel P B ι h w := ⟨H.blk, H.dom, H.inj, H.hB⟩
theorem Ext.toF {h h' : List ABlk} (E : Ext P B ι h w wr ι' h' w') : ExtF P B ι (fun b => h[b]?) w wr ι' (fun b => h'[b]?) w' := by
  refine ⟨E.misc, E.sub, fun b hb hn => E.keep b ?_ hn, E.gen, E.wrl, E.wrd, E.dk, ?_, fun b k' hk' hb => E.blk b k' hk' (hb.imp_left get_none.1), fun b b' k k' l l' h1 h2 h3 h4 => E.inj b b' k k' l l' h1 h2 (h3.imp_left get_none.1) (h4.imp_left get_none.1),
    fun b k' hk' hb => E.newOwn b k' hk' (get_none.1 hb), E.frame⟩
  · rcases Nat.lt_or_ge b h.length with h1 | h1
    · exact h1
    · exact absurd (get_none.2 h1) hb
  · intro b g l hl
    rcases E.new b g l hl with h1 | ⟨k', h1, h2, h3, h4⟩
    · exact .inl h1
    · exact .inr ⟨k', h1, h2, h3, h4.imp_left fun h5 => ⟨get_none.2 h5.1, h5.2⟩⟩
theorem ExtF.toL {h h' : List ABlk} (E : ExtF P B ι (fun b => h[b]?) w wr ι' (fun b => h'[b]?) w') (hlen : h.length ≤ h'.length) : Ext P B ι h w wr ι' h' w' := by
  refine ⟨E.misc, E.sub, hlen, fun b hb hn => E.keep b (fun h0 => by have := get_none.1 h0; omega) hn, E.gen, E.wrl, E.wrd, E.dk, ?_, fun b k' hk' hb => E.blk b k' hk' (hb.imp_left get_none.2), fun b b' k k' l l' h1 h2 h3 h4 => E.inj b b' k k' l l' h1 h2 (h3.imp_left get_none.2) (h4.imp_left get_none.2),
    fun b k' hk' hb => E.newOwn b k' hk' (get_none.2 hb), E.frame⟩
  intro b g l hl
  rcases E.new b g l hl with h1 | ⟨k', h1, h2, h3, h4⟩
  · exact .inl h1
  · exact .inr ⟨k', h1, h2, h3, h4.imp_left fun h5 => ⟨get_none.1 h5.1, h5.2⟩⟩

variable {h h' : HF}

theorem ExtF.refl (hr : ∀ c, c < w.heap.size → w'.heap[c]? = w.heap[c]?) (hm : Misc w w') : ExtF P B ι h w [] ι h w' := by
  refine ⟨hm, Sub.refl _, fun _ _ _ => rfl, fun b k hk => ⟨k, hk, Nat.le_refl _, rfl⟩, fun b hb => (by cases hb), fun b hb => (by cases hb), fun _ h => h, fun b g l hl => Or.inl hl, ?_, ?_, ?_, fun c hc _ => hr c hc⟩
  · intro b k' hk' hb
    rcases hb with hb | hb
    · rw [hk'] at hb; cases hb
    · cases hb
  · intro b b' k k' l l' hk _ hb
    rcases hb with hb | hb
    · rw [hk] at hb; cases hb
    · cases hb
  · intro b k' hk' hb
    rw [hk'] at hb; cases hb

theorem ExtF.old_gen (H : HRelF P B ι h w) (E : ExtF P B ι h w wr ι' h' w') {b : Nat} {k k' : ABlk} (hk : h b = some k) (hk' : h' b = some k') {l : Loc}
    (hl : ι b (bgen k') = some l) : bgen k' = bgen k := by
  obtain ⟨_, k0, h0, hle⟩ := H.dom _ _ _ hl
  rw [hk] at h0; cases h0
  obtain ⟨k1, h1, hle', _⟩ := E.gen b k hk
  rw [hk'] at h1; cases h1
  omega
theorem ExtF.loc_old (H : HRelF P B ι h w) (E : ExtF P B ι h w wr ι' h' w') {b : Nat} {k' : ABlk} (hb : h b ≠ none) (hwr : b ∉ wr) (hk' : h' b = some k') {l : Loc}
    (hl : ι' b (bgen k') = some l) : h b = some k' ∧ ι b (bgen k') = some l := by
  have hk : h b = some k' := by rw [← E.keep b hb hwr]; exact hk'
  refine ⟨hk, ?_⟩
  rcases E.new _ _ _ hl with h1 | ⟨_, _, _, _, ⟨h2, _⟩ | ⟨h2, _⟩⟩
  · exact h1
  · exact absurd h2 hb
  · exact absurd h2 hwr
theorem ExtF.loc_wr (H : HRelF P B ι h w) (E : ExtF P B ι h w wr ι' h' w') {b : Nat} {k k' : ABlk} (hk : h b = some k) (hk' : h' b = some k') {l : Loc}
    (hl : ι' b (bgen k') = some l) : w.heap.size ≤ l.c ∨ ∃ l0, ι b (bgen k) = some l0 ∧ l0.c = l.c := by
  rcases E.new _ _ _ hl with h1 | ⟨_, _, _, _, ⟨h2, h3⟩ | ⟨h2, k0, h3, h4, h5⟩⟩
  · have := E.old_gen H hk hk' h1
    rw [this] at h1
    exact .inr ⟨l, h1, rfl⟩
  · exact .inl h3
  · rw [hk] at h3; cases h3
    exact h5
theorem ExtF.loc_new (H : HRelF P B ι h w) (E : ExtF P B ι h w wr ι' h' w') {b g : Nat} (hb : h b = none) {l : Loc} (hl : ι' b g = some l) : w.heap.size ≤ l.c := by
  rcases E.new _ _ _ hl with h1 | ⟨_, _, _, _, ⟨h2, h3⟩ | ⟨h2, k0, h3, _⟩⟩
  · obtain ⟨_, k0, h0, _⟩ := H.dom _ _ _ h1
    rw [hb] at h0; cases h0
  · exact h3
  · rw [hb] at h3; cases h3
theorem ExtF.own_of (E : ExtF P B ι h w wr ι' h' w') {b : Nat} {k' : ABlk} (hk' : h' b = some k') (hA : h b = none ∨ b ∈ wr) : own k' = true := by
  rcases hA with hA | hA
  · exact E.newOwn b k' hk' hA
  · obtain ⟨k, hk, ho⟩ := E.wrl b hA
    obtain ⟨k1, h1, _, h2⟩ := E.gen b k hk
    rw [hk'] at h1; cases h1
    rw [h2, ho]

theorem some_of_ne {b : Nat} (hb : h b ≠ none) : ∃ k, h b = some k := Option.ne_none_iff_exists'.1 hb

theorem ExtF.hrel (H : HRelF P B ι h w) (E : ExtF P B ι h w wr ι' h' w') : HRelF P B ι' h' w' := by
  have hA : ∀ b : Nat, (h b = none ∨ b ∈ wr) ∨ (h b ≠ none ∧ b ∉ wr) := fun b => by
    by_cases h1 : h b = none
    · exact .inl (.inl h1)
    · by_cases h2 : b ∈ wr
      · exact .inl (.inr h2)
      · exact .inr ⟨h1, h2⟩
  have cross : ∀ (b b' : Nat) (k k' : ABlk) (l l' : Loc), h' b = some k → h' b' = some k' → ι' b (bgen k) = some l → ι' b' (bgen k') = some l' →
      (h b = none ∨ b ∈ wr) → (h b' ≠ none ∧ b' ∉ wr) → l.c ≠ l'.c := by
    intro b b' k k' l l' hk hk' hl hl' hbA hbN
    obtain ⟨h1, h2⟩ := E.loc_old H hbN.1 hbN.2 hk' hl'
    have hlt := (H.dom _ _ _ h2).1
    rcases hbA with hbA | hbA
    · have := E.loc_new H hbA hl
      omega
    · obtain ⟨k0, hk0, ho⟩ := E.wrl b hbA
      rcases E.loc_wr H hk0 hk hl with h3 | ⟨l0, h3, h4⟩
      · omega
      · rw [← h4]
        exact H.inj b b' k0 k' l0 l' hk0 h1 h3 h2 ho (fun e => hbN.2 (e ▸ hbA))
  refine ⟨?_, ?_, ?_, Nat.le_trans H.hB E.misc.size⟩
  · intro b k' hk'
    rcases hA b with hb | ⟨hb, hn⟩
    · exact E.blk b k' hk' hb
    · have hk : h b = some k' := by rw [← E.keep b hb hn]; exact hk'
      refine BRel.keep E.sub (H.blk b k' hk) (fun l hl => (E.loc_old H hb hn hk' hl).2) (fun l hl => ?_)
      refine E.frame l.c (H.dom _ _ _ hl).1 fun b1 k1 l1 hb1 hk1 hl1 => ?_
      obtain ⟨k2, hk2, ho⟩ := E.wrl b1 hb1
      rw [hk1] at hk2; cases hk2
      exact H.inj b1 b k1 k' l1 l hk1 hk hl1 hl ho (fun e => hn (e ▸ hb1))
  · intro b g l hl
    rcases E.new _ _ _ hl with h1 | ⟨k', h1, h2, h3, _⟩
    · obtain ⟨h2, k, h3, h4⟩ := H.dom _ _ _ h1
      obtain ⟨k', h5, h6, _⟩ := E.gen b k h3
      exact ⟨Nat.lt_of_lt_of_le h2 E.misc.size, k', h5, by omega⟩
    · exact ⟨h3, k', h1, h2⟩
  · intro b b' k k' l l' hk hk' hl hl' ho hne
    rcases hA b with hb | hb <;> rcases hA b' with hb' | hb'
    · exact E.inj b b' k k' l l' hk hk' hb hb' hl hl' hne
    · exact cross b b' k k' l l' hk hk' hl hl' hb hb'
    · exact fun e => cross b' b k' k l' l hk' hk hl' hl hb' hb e.symm
    · obtain ⟨h1, h2⟩ := E.loc_old H hb.1 hb.2 hk hl
      obtain ⟨h3, h4⟩ := E.loc_old H hb'.1 hb'.2 hk' hl'
      exact H.inj b b' k k' l l' h1 h3 h2 h4 ho hne

theorem ExtF.trans (H : HRelF P B ι h w) {ι2 : Emb} {h2 : HF} {w2 : World} {r2 W : List Nat} (E : ExtF P B ι h w wr ι' h' w') (F : ExtF P B ι' h' w' r2 ι2 h2 w2)
    (hW : ∀ b, b ∈ W ↔ (b ∈ wr ∨ (b ∈ r2 ∧ h b ≠ none))) : ExtF P B ι h w W ι2 h2 w2 := by
  have H1 := E.hrel H
  have H2 := F.hrel H1
  have some' : ∀ {b : Nat}, h b ≠ none → ∃ k k1, h b = some k ∧ h' b = some k1 ∧ bgen k ≤ bgen k1 ∧ own k1 = own k := by
    intro b hb
    obtain ⟨k, hk⟩ := some_of_ne hb
    obtain ⟨k1, h1, h2, h3⟩ := E.gen b k hk
    exact ⟨k, k1, hk, h1, h2, h3⟩
  have hown : ∀ (b : Nat) (k' : ABlk), h2 b = some k' → (h b = none ∨ b ∈ W) → own k' = true := by
    intro b k2 hk2 hb
    by_cases h1 : h' b = none
    · exact F.newOwn b k2 hk2 h1
    · obtain ⟨k1, hk1⟩ := some_of_ne h1
      obtain ⟨k3, hk3, _, ho⟩ := F.gen b k1 hk1
      rw [hk2] at hk3; cases hk3
      rw [ho]
      rcases hb with hb | hb
      · exact E.newOwn b k1 hk1 hb
      · rcases (hW b).1 hb with h3 | ⟨h3, _⟩
        · exact E.own_of hk1 (.inr h3)
        · obtain ⟨k4, hk4, ho4⟩ := F.wrl b h3
          rw [hk1] at hk4; cases hk4
          exact ho4
  refine ⟨E.misc.trans F.misc, E.sub.trans F.sub, ?_, ?_, ?_, ?_, fun b hb => F.dk b (E.dk b hb), ?_, ?_, ?_, ?_, ?_⟩
  · intro b hb hn
    have h1 : b ∉ wr := fun e => hn ((hW b).2 (.inl e))
    have h3 : b ∉ r2 := fun e => hn ((hW b).2 (.inr ⟨e, hb⟩))
    have h4 := E.keep b hb h1
    rw [F.keep b (by rw [h4]; exact hb) h3, h4]
  · intro b k hk
    obtain ⟨k1, h1, g1, o1⟩ := E.gen b k hk
    obtain ⟨k2, h3, g2, o2⟩ := F.gen b k1 h1
    exact ⟨k2, h3, Nat.le_trans g1 g2, o2.trans o1⟩
  · intro b hb
    rcases (hW b).1 hb with h1 | ⟨h1, hlt⟩
    · exact E.wrl b h1
    · obtain ⟨k1, hk1, ho⟩ := F.wrl b h1
      obtain ⟨k, k1', hk, hk1', _, ho'⟩ := some' hlt
      rw [hk1] at hk1'; cases hk1'
      exact ⟨k, hk, by rw [← ho']; exact ho⟩
  · intro b hb
    rcases (hW b).1 hb with h1 | ⟨h1, hlt⟩
    · exact E.wrd b h1
    · by_cases hbw : b ∈ wr
      · exact E.wrd b hbw
      · obtain ⟨k1, l, hk1, hl⟩ := F.wrd b h1
        obtain ⟨hk, hl'⟩ := E.loc_old H hlt hbw hk1 hl
        exact ⟨k1, l, hk, hl'⟩
  · intro b g l hl
    rcases F.new _ _ _ hl with h1 | ⟨k2, hk2, hg, hc, hor⟩
    · rcases E.new _ _ _ h1 with h3 | ⟨k1, hk1, hg, hc, hor⟩
      · exact .inl h3
      · obtain ⟨k2, hk2, hg2, _⟩ := F.gen b k1 hk1
        refine .inr ⟨k2, hk2, Nat.le_trans hg hg2, Nat.lt_of_lt_of_le hc F.misc.size, ?_⟩
        rcases hor with hor | ⟨hb, hor⟩
        · exact .inl hor
        · exact .inr ⟨(hW b).2 (.inl hb), hor⟩
    · refine .inr ⟨k2, hk2, hg, hc, ?_⟩
      rcases hor with ⟨h3, h4⟩ | ⟨hb, k1, hk1, hlt, hor⟩
      · refine .inl ⟨?_, Nat.le_trans E.misc.size h4⟩
        cases h0 : h b with
        | none => rfl
        | some k =>
          obtain ⟨k', h5, _⟩ := E.gen b k h0
          rw [h3] at h5; cases h5
      · by_cases hbl : h b = none
        · refine .inl ⟨hbl, ?_⟩
          rcases hor with hor | ⟨l0, h5, h6⟩
          · exact Nat.le_trans E.misc.size hor
          · rw [← h6]; exact E.loc_new H hbl h5
        · obtain ⟨k, k1', hk, hk1', hgk, _⟩ := some' hbl
          rw [hk1] at hk1'; cases hk1'
          refine .inr ⟨(hW b).2 (.inr ⟨hb, hbl⟩), k, hk, by omega, ?_⟩
          rcases hor with hor | ⟨l0, h5, h6⟩
          · exact .inl (Nat.le_trans E.misc.size hor)
          · rcases E.loc_wr H hk hk1 h5 with h7 | ⟨l1, h7, h8⟩
            · exact .inl (by rw [← h6]; exact h7)
            · exact .inr ⟨l1, h7, h8.trans h6⟩
  · intro b k2 hk2 _
    exact H2.blk b k2 hk2
  · intro b b' k k' l l' hk hk' hb hb' hl hl' hne
    exact H2.inj b b' k k' l l' hk hk' hl hl' (hown b k hk hb) hne
  · intro b k2 hk2 hb
    exact hown b k2 hk2 (.inl hb)
  · intro c hc hn
    have h1 : w'.heap[c]? = w.heap[c]? := E.frame c hc fun b k l hb hk hl => hn b k l ((hW b).2 (.inl hb)) hk hl
    rw [← h1]
    refine F.frame c (Nat.lt_of_lt_of_le hc E.misc.size) fun b k1 l hb hk1 hl => ?_
    by_cases hbl : h b = none
    · have := E.loc_new H hbl hl
      omega
    · obtain ⟨k, k1', hk, hk1', _⟩ := some' hbl
      rcases E.loc_wr H hk hk1 hl with h7 | ⟨l1, h7, h8⟩
      · omega
      · rw [← h8]
        exact hn b k l1 ((hW b).2 (.inr ⟨hb, hbl⟩)) hk h7

/-- A step that was made on a part of what is there, from a smaller embedding. -/
theorem ExtF.lift {ι0 ι1 : Emb} {h0 h1 : HF} (H : HRelF P B ι h w) (E : ExtF P B ι0 h0 w wr ι1 h1 w') (hsub : Sub ι0 ι)
    (hι : ∀ b g l, ι b g = some l → h0 b ≠ none → ι0 b g = some l)
    (hwr : ∀ b ∈ wr, h b = h0 b)
    (hcr : ∀ b k, h1 b = some k → h0 b = none → h b = none)
    (hh' : ∀ b, h' b = if b ∈ wr ∨ (h0 b = none ∧ h1 b ≠ none) then h1 b else h b) :
    Sub ι1 (fun b g => match ι b g with | some l => some l | none => ι1 b g) ∧
    ExtF P B ι h w wr (fun b g => match ι b g with | some l => some l | none => ι1 b g) h' w' := by
  have sub1 : Sub ι1 (fun b g => match ι b g with | some l => some l | none => ι1 b g) := by
    intro b g l1 hl1
    dsimp only
    split
    · rename_i l hl
      by_cases hb : h0 b = none
      · rcases E.new b g l1 hl1 with h3 | ⟨k', h3, h4, h5, h6⟩
        · rw [hsub _ _ _ h3] at hl; exact hl.symm
        · obtain ⟨_, k, hk, _⟩ := H.dom _ _ _ hl
          rw [hcr b k' h3 hb] at hk; cases hk
      · have := E.sub _ _ _ (hι b g l hl hb)
        rw [← this]; exact hl1
    · exact hl1
  refine ⟨sub1, ?_⟩
  have tou : ∀ {b : Nat}, (b ∈ wr ∨ (h0 b = none ∧ h1 b ≠ none)) → h' b = h1 b := fun hb => by rw [hh', if_pos hb]
  have unt : ∀ {b : Nat}, ¬(b ∈ wr ∨ (h0 b = none ∧ h1 b ≠ none)) → h' b = h b := fun hb => by rw [hh', if_neg hb]
  have touched : ∀ {b : Nat} {k' : ABlk}, h' b = some k' → (h b = none ∨ b ∈ wr) → h1 b = some k' ∧ (h0 b = none ∨ b ∈ wr) := by
    intro b k' hk' hb
    by_cases ht : b ∈ wr ∨ (h0 b = none ∧ h1 b ≠ none)
    · rw [tou ht] at hk'
      exact ⟨hk', ht.elim .inr fun h => .inl h.1⟩
    · rw [unt ht] at hk'
      rcases hb with hb | hb
      · rw [hb] at hk'; cases hk'
      · exact absurd (.inl hb) ht
  have back : ∀ {b g : Nat} {l : Loc} {k' : ABlk}, (match ι b g with | some l => some l | none => ι1 b g) = some l → h1 b = some k' → (h0 b = none ∨ b ∈ wr) → ι1 b g = some l := by
    intro b g l k' hl hk' hb
    split at hl
    · rename_i l2 hl2
      cases hl
      rcases hb with hb | hb
      · obtain ⟨_, k, hk, _⟩ := H.dom _ _ _ hl2
        rw [hcr b k' hk' hb] at hk; cases hk
      · obtain ⟨k, hk, _⟩ := E.wrl b hb
        exact E.sub _ _ _ (hι b g _ hl2 (by rw [hk]; simp))
    · exact hl
  refine ⟨E.misc, ?_, ?_, ?_, ?_, ?_, ?_, ?_, ?_, ?_, ?_, ?_⟩
  · intro b g l hl
    simp only [hl]
  · intro b hb hn
    refine unt fun ht => ?_
    rcases ht with ht | ⟨ht, ht'⟩
    · exact hn ht
    · obtain ⟨k, hk⟩ := some_of_ne ht'
      exact hb (hcr b k hk ht)
  · intro b k hk
    by_cases ht : b ∈ wr ∨ (h0 b = none ∧ h1 b ≠ none)
    · rcases ht with ht | ⟨ht, ht'⟩
      · obtain ⟨k', h3, h4⟩ := E.gen b k (by rw [← hwr b ht]; exact hk)
        exact ⟨k', by rw [tou (.inl ht)]; exact h3, h4⟩
      · obtain ⟨k', hk'⟩ := some_of_ne ht'
        rw [hcr b k' hk' ht] at hk; cases hk
    · exact ⟨k, by rw [unt ht]; exact hk, Nat.le_refl _, rfl⟩
  · intro b hb
    obtain ⟨k, hk, ho⟩ := E.wrl b hb
    exact ⟨k, by rw [hwr b hb]; exact hk, ho⟩
  · intro b hb
    obtain ⟨k, l, hk, hl⟩ := E.wrd b hb
    exact ⟨k, l, by rw [hwr b hb]; exact hk, hsub _ _ _ hl⟩
  · intro b hb
    by_cases ht : b ∈ wr ∨ (h0 b = none ∧ h1 b ≠ none)
    · rw [tou ht]
      rcases ht with ht | ⟨ht, ht'⟩
      · exact E.dk b (by rw [← hwr b ht]; exact hb)
      · obtain ⟨k', hk'⟩ := some_of_ne ht'
        rw [hcr b k' hk' ht] at hb; cases hb
    · rw [unt ht]; exact hb
  · intro b g l hl
    split at hl
    · rename_i l' hl'
      cases hl
      exact .inl hl'
    · rcases E.new b g l hl with h3 | ⟨k', h3, h4, h5, h6⟩
      · exact .inl (hsub _ _ _ h3)
      · rcases h6 with ⟨h6, h7⟩ | ⟨h6, k, h7, h8, h9⟩
        · exact .inr ⟨k', by rw [tou (.inr ⟨h6, by rw [h3]; simp⟩)]; exact h3, h4, h5, .inl ⟨hcr b k' h3 h6, h7⟩⟩
        · refine .inr ⟨k', by rw [tou (.inl h6)]; exact h3, h4, h5, .inr ⟨h6, k, by rw [hwr b h6]; exact h7, h8, ?_⟩⟩
          rcases h9 with h9 | ⟨l0, h9, h10⟩
          · exact .inl h9
          · exact .inr ⟨l0, hsub _ _ _ h9, h10⟩
  · intro b k' hk' hb
    obtain ⟨h3, h4⟩ := touched hk' hb
    exact BRel.keep sub1 (E.blk b k' h3 h4) (fun l hl => back hl h3 h4) (fun _ _ => rfl)
  · intro b b' k k' l l' hk hk' hb hb' hl hl' hne
    obtain ⟨h3, h4⟩ := touched hk hb
    obtain ⟨h5, h6⟩ := touched hk' hb'
    exact E.inj b b' k k' l l' h3 h5 h4 h6 (back hl h3 h4) (back hl' h5 h6) hne
  · intro b k' hk' hb
    obtain ⟨h3, h4⟩ := touched hk' (.inl hb)
    rcases h4 with h4 | h4
    · exact E.newOwn b k' h3 h4
    · exact E.own_of h3 (.inr h4)
  · intro c hc hn
    refine E.frame c hc fun b k l hb hk hl => ?_
    exact hn b k l hb (by rw [hwr b hb]; exact hk) (hsub _ _ _ hl)
end

end Go.Proofs.Ytocoadpepofbbaa.AM
