/-
  VALUES OF NUMBERS AND BOOLS: their comparison; maps keyed by them.
-/
import Derived.Test.YtocoadpepofbbaaG3
import Derived.Laws.StructEq
import Derived.ChangeKeysEq
import Derived.Laws.Append
import Derived.Laws.AppendOwn
set_option linter.unusedVariables false
set_option linter.unusedSimpArgs false
namespace Go.Proofs.Ytocoadpepofbbaa.AM
open Go

def cv : Value → Int
  | .int _ n => n
  | .bool b => if b then 1 else 0
  | _ => 0
def VSh1 : Option IntKind → Value → Prop
  | some k, .int k' _ => k = k'
  | none, .bool _ => True
  | _, _ => False
inductive VSh : List (Option IntKind) → List Value → Prop
  | nil : VSh [] []
  | cons {k : Option IntKind} {x : Value} {ks : List (Option IntKind)} {xs : List Value} (h : VSh1 k x) (t : VSh ks xs) : VSh (k :: ks) (x :: xs)

theorem VSh.length : ∀ {ks : List (Option IntKind)} {xs : List Value}, VSh ks xs → xs.length = ks.length
  | _, _, .nil => rfl
  | _, _, .cons _ t => by simp [VSh.length t]
theorem VSh.split : ∀ {a b : List (Option IntKind)} {xs : List Value}, VSh (a ++ b) xs → VSh a (xs.take a.length) ∧ VSh b (xs.drop a.length)
  | [], _, xs, h => ⟨by simp; exact .nil, by simpa using h⟩
  | k :: a, b, _, .cons h t => by
    obtain ⟨h1, h2⟩ := VSh.split (a := a) t
    exact ⟨by simpa using .cons h h1, by simpa using h2⟩
theorem VSh1.eq {k : Option IntKind} {x y : Value} (hx : VSh1 k x) (hy : VSh1 k y) (h : cv x = cv y) : x = y := by
  cases k with
  | none =>
    cases x <;> simp [VSh1] at hx
    cases y <;> simp [VSh1] at hy
    rename_i a b
    cases a <;> cases b <;> simp [cv] at h <;> rfl
  | some k =>
    cases x <;> simp [VSh1] at hx
    cases y <;> simp [VSh1] at hy
    simp [cv] at h
    subst hx; subst hy; subst h; rfl
theorem VSh.eq : ∀ {ks : List (Option IntKind)} {xs ys : List Value}, VSh ks xs → VSh ks ys → xs.map cv = ys.map cv → xs = ys
  | _, _, _, .nil, .nil, _ => rfl
  | _, _, _, .cons h t, .cons h' t', e => by
    simp only [List.map_cons, List.cons.injEq] at e
    rw [h.eq h' e.1, VSh.eq t t' e.2]

theorem shape1_rel {ι : Emb} {k : Option IntKind} {v : AV} {x : Value} (hs : shape1 k v = true) (hv : VRel ι v x) : VSh1 k x ∧ code1 v = some (cv x) := by
  unfold shape1 at hs
  split at hs
  · have := hv.inv_int; subst this
    exact ⟨by simpa [VSh1] using hs, rfl⟩
  · have := hv.inv_bool; subst this
    exact ⟨trivial, rfl⟩
  · cases hs
theorem shapeL_rel {ι : Emb} : ∀ {ks : List (Option IntKind)} {vs : List AV} {xs : List Value}, shapeL ks vs = true → VRelL ι vs xs → VSh ks xs ∧ codeL vs = some (xs.map cv)
  | [], [], _, _, .nil => ⟨.nil, rfl⟩
  | [], _ :: _, _, h, _ => by simp [shapeL] at h
  | _ :: _, [], _, h, _ => by simp [shapeL] at h
  | k :: ks, v :: vs, _, h, .cons hv ht => by
    simp only [shapeL, Bool.and_eq_true] at h
    obtain ⟨h1, h2⟩ := shape1_rel h.1 hv
    obtain ⟨h3, h4⟩ := shapeL_rel h.2 ht
    exact ⟨.cons h1 h3, by simp [codeL, h2, h4]⟩

def packV (ag : Bool) (xs : List Value) : Value := if ag then .agg xs.toArray else xs.headD undef

section
variable {P : Program} {w : World} {arr : Bool}

theorem flat_desc {d : Nat} {t : TypeId} {ks : List (Option IntKind)} (h : flatT P arr d t = some ks) : ∃ dsc, P.underlying t = some dsc ∧ (isAggD dsc = false → ∃ k, ks = [k]) := by
  cases d with
  | zero => simp [flatT] at h
  | succ d =>
    simp only [flatT] at h
    split at h
    · rename_i k hu; cases h; exact ⟨_, hu, fun _ => ⟨_, rfl⟩⟩
    · rename_i hu; cases h; exact ⟨_, hu, fun _ => ⟨_, rfl⟩⟩
    · rename_i fs hu; exact ⟨_, hu, fun e => by simp [isAggD] at e⟩
    · rename_i n e hu; exact ⟨_, hu, fun e => by simp [isAggD] at e⟩
    · cases h

theorem part_flat {t : TypeId} {dsc : TypeDesc} (hd : P.underlying t = some dsc) {s : Nat} (hs : sizeT P t = some s) (X : List Value) (off : Nat) (h1 : isAggD dsc = false → s = 1) (hlen : off + s ≤ X.length) (w : World) :
    (part t X.toArray off).run P w = .ok (packV (isAggD dsc) ((X.drop off).take s)) w := by
  obtain ⟨i, hi, hsi⟩ := sizeT_spec hs
  unfold part
  simp only [Sem.run_bind, run_isAgg hd, Result.andThen_ok]
  cases hag : isAggD dsc
  · simp only [Bool.false_eq_true, if_false, packV]
    have := h1 hag
    subst this
    rw [List.getElem?_toArray, List.getElem?_eq_getElem (by omega)]
    simp only [Sem.run_pure]
    congr 1
    have hx : X.drop off = X[off]'(by omega) :: X.drop (off + 1) := List.drop_eq_getElem_cons (by omega)
    rw [hx]
    rfl
  · simp only [if_true, packV, Sem.run_bind, run_sizeOf hi, Result.andThen_ok, Sem.run_pure]
    congr 2
    apply Array.ext'
    simp [List.extract_eq_take_drop, hsi]

theorem split_eq {A B C D : List Value} (h : A.length = C.length) : decide ((A ++ B).map cv = (C ++ D).map cv) = (decide (A.map cv = C.map cv) && decide (B.map cv = D.map cv)) := by
  rw [Bool.eq_iff_iff]
  simp only [decide_eq_true_eq, Bool.and_eq_true, List.map_append]
  constructor
  · intro e
    exact List.append_inj e (by simpa using h)
  · rintro ⟨h1, h2⟩
    rw [h1, h2]

theorem eqFields_flat {d D : Nat} (ih : ∀ (t : TypeId) (ks : List (Option IntKind)), flatT P arr d t = some ks → ∀ xs ys, VSh ks xs → VSh ks ys → ∀ dsc, P.underlying t = some dsc →
      (Op.equalIn D t (packV (isAggD dsc) xs) (packV (isAggD dsc) ys)).run P w = .ok (decide (xs.map cv = ys.map cv)) w) (X Y : List Value) :
    ∀ (fs : List Field) (off : Nat) (ks : List (Option IntKind)), flatFs (flatT P arr d) P off fs = some ks → VSh ks (X.drop off) → VSh ks (Y.drop off) →
      (Op.eqFields D X.toArray Y.toArray fs).run P w = .ok (decide ((X.drop off).map cv = (Y.drop off).map cv)) w
  | [], off, ks, hf, hX, hY => by
    simp only [flatFs, Option.some.injEq] at hf; subst hf
    have h1 := hX.length
    have h2 := hY.length
    rw [List.eq_nil_of_length_eq_zero h1, List.eq_nil_of_length_eq_zero h2]
    simp [Op.eqFields]
  | f :: fs, off, ks, hf, hX, hY => by
    simp only [flatFs] at hf
    split at hf
    · rename_i k1 s h1 hs
      split at hf
      · cases hf
      · rename_i hcond
        split at hf
        · rename_i r hr
          cases hf
          have hn : f.name ≠ "_" := fun e => hcond (.inl e)
          have ho : f.offset = off := Classical.byContradiction fun e => hcond (.inr (.inl e))
          have hsl : s = k1.length := Classical.byContradiction fun e => hcond (.inr (.inr e))
          obtain ⟨dsc, hd, hone⟩ := flat_desc h1
          obtain ⟨x1, x2⟩ := hX.split
          obtain ⟨y1, y2⟩ := hY.split
          have lX := hX.length
          have lY := hY.length
          simp only [List.length_append, List.length_drop] at lX lY
          have h11 : isAggD dsc = false → s = 1 := fun e => by obtain ⟨k, rfl⟩ := hone e; exact hsl
          have hs0 : 0 < s ∨ s = 0 := by omega
          have hlx : off + s ≤ X.length ∨ k1.length = 0 := by omega
          have pX : (part f.type X.toArray off).run P w = .ok (packV (isAggD dsc) ((X.drop off).take s)) w := by
            by_cases h0 : s = 0
            · subst h0
              have : isAggD dsc = true := by
                cases e : isAggD dsc
                · have := h11 e; omega
                · rfl
              obtain ⟨i, hi, hsi⟩ := sizeT_spec hs
              unfold part
              simp [run_isAgg hd, this, run_sizeOf hi, hsi, packV]
            · exact part_flat hd hs X off h11 (by omega) w
          have pY : (part f.type Y.toArray off).run P w = .ok (packV (isAggD dsc) ((Y.drop off).take s)) w := by
            by_cases h0 : s = 0
            · subst h0
              have : isAggD dsc = true := by
                cases e : isAggD dsc
                · have := h11 e; omega
                · rfl
              obtain ⟨i, hi, hsi⟩ := sizeT_spec hs
              unfold part
              simp [run_isAgg hd, this, run_sizeOf hi, hsi, packV]
            · exact part_flat hd hs Y off h11 (by omega) w
          have hE := ih f.type k1 h1 _ _ x1 y1 dsc hd
          rw [← hsl] at hE x2 y2
          rw [List.drop_drop] at x2 y2
          have hrec := eqFields_flat ih X Y fs (off + s) r hr x2 y2
          rw [Op.eqFields]
          simp only [if_pos hn, Sem.run_bind, ho, pX, pY, hE, Result.andThen_ok]
          have hsplit : decide ((X.drop off).map cv = (Y.drop off).map cv) =
              (decide (((X.drop off).take s).map cv = ((Y.drop off).take s).map cv) && decide ((X.drop (off + s)).map cv = (Y.drop (off + s)).map cv)) := by
            have := split_eq (A := (X.drop off).take s) (B := (X.drop off).drop s) (C := (Y.drop off).take s) (D := (Y.drop off).drop s) (by simp; omega)
            rw [List.take_append_drop, List.take_append_drop, List.drop_drop, List.drop_drop] at this
            exact this
          rw [hsplit]
          cases hb : decide (((X.drop off).take s).map cv = ((Y.drop off).take s).map cv)
          · simp
          · simpa using hrec
        · cases hf
    · cases hf

theorem eqItems_flat {D : Nat} {e : TypeId} {ks : List (Option IntKind)} {s : Nat} {dsc : TypeDesc} (hd : P.underlying e = some dsc) (hs : sizeT P e = some s) (hsl : s = ks.length) (hone : isAggD dsc = false → s = 1)
    (ih : ∀ xs ys, VSh ks xs → VSh ks ys → (Op.equalIn D e (packV (isAggD dsc) xs) (packV (isAggD dsc) ys)).run P w = .ok (decide (xs.map cv = ys.map cv)) w) (X Y : List Value) :
    ∀ (m j : Nat), VSh (List.replicate m ks).flatten (X.drop (j * s)) → VSh (List.replicate m ks).flatten (Y.drop (j * s)) →
      (Op.eqItems D e s X.toArray Y.toArray (List.range' j m)).run P w = .ok (decide ((X.drop (j * s)).map cv = (Y.drop (j * s)).map cv)) w
  | 0, j, hX, hY => by
    have h1 := hX.length
    have h2 := hY.length
    have e1 : X.drop (j * s) = [] := List.eq_nil_of_length_eq_zero (by simpa using h1)
    have e2 : Y.drop (j * s) = [] := List.eq_nil_of_length_eq_zero (by simpa using h2)
    rw [e1, e2]
    simp [Op.eqItems]
  | m + 1, j, hX, hY => by
    simp only [List.replicate_succ, List.flatten_cons] at hX hY
    obtain ⟨x1, x2⟩ := hX.split
    obtain ⟨y1, y2⟩ := hY.split
    have lX := hX.length
    have lY := hY.length
    simp only [List.length_append, List.length_drop] at lX lY
    have pX : (part e X.toArray (j * s)).run P w = .ok (packV (isAggD dsc) ((X.drop (j * s)).take s)) w := by
      by_cases h0 : s = 0
      · have : isAggD dsc = true := by
          cases e : isAggD dsc
          · have := hone e; omega
          · rfl
        obtain ⟨i, hi, hsi⟩ := sizeT_spec hs
        unfold part
        subst h0
        simp [run_isAgg hd, this, run_sizeOf hi, hsi, packV]
      · exact part_flat hd hs X _ hone (by omega) w
    have pY : (part e Y.toArray (j * s)).run P w = .ok (packV (isAggD dsc) ((Y.drop (j * s)).take s)) w := by
      by_cases h0 : s = 0
      · have : isAggD dsc = true := by
          cases e : isAggD dsc
          · have := hone e; omega
          · rfl
        obtain ⟨i, hi, hsi⟩ := sizeT_spec hs
        unfold part
        subst h0
        simp [run_isAgg hd, this, run_sizeOf hi, hsi, packV]
      · exact part_flat hd hs Y _ hone (by omega) w
    have hE := ih _ _ x1 y1
    rw [← hsl] at hE x2 y2
    rw [List.drop_drop, show j * s + s = (j + 1) * s from by rw [Nat.add_mul]; omega] at x2 y2
    have hrec := eqItems_flat hd hs hsl hone ih X Y m (j + 1) x2 y2
    rw [List.range'_succ, Op.eqItems]
    simp only [Sem.run_bind, pX, pY, hE, Result.andThen_ok]
    have hsplit : decide ((X.drop (j * s)).map cv = (Y.drop (j * s)).map cv) =
        (decide (((X.drop (j * s)).take s).map cv = ((Y.drop (j * s)).take s).map cv) && decide ((X.drop ((j + 1) * s)).map cv = (Y.drop ((j + 1) * s)).map cv)) := by
      have := split_eq (A := (X.drop (j * s)).take s) (B := (X.drop (j * s)).drop s) (C := (Y.drop (j * s)).take s) (D := (Y.drop (j * s)).drop s) (by simp; omega)
      rw [List.take_append_drop, List.take_append_drop, List.drop_drop, List.drop_drop, show j * s + s = (j + 1) * s from by rw [Nat.add_mul]; omega] at this
      exact this
    rw [hsplit]
    cases hb : decide (((X.drop (j * s)).take s).map cv = ((Y.drop (j * s)).take s).map cv)
    · simp
    · simpa using hrec

theorem eqIn_flat : ∀ (d : Nat) (t : TypeId) (ks : List (Option IntKind)), flatT P arr d t = some ks → ∀ D, d ≤ D → ∀ xs ys, VSh ks xs → VSh ks ys → ∀ dsc, P.underlying t = some dsc →
    (Op.equalIn D t (packV (isAggD dsc) xs) (packV (isAggD dsc) ys)).run P w = .ok (decide (xs.map cv = ys.map cv)) w
  | 0, t, ks, h, D, hD, xs, ys, hx, hy, dsc, hd => by simp [flatT] at h
  | d + 1, t, ks, h, D, hD, xs, ys, hx, hy, dsc, hd => by
    obtain ⟨D, rfl⟩ : ∃ m, D = m + 1 := ⟨D - 1, by omega⟩
    have ih := fun t ks h => eqIn_flat d t ks h D (by omega)
    simp only [flatT] at h
    split at h
    · rename_i k hu
      cases h
      rw [hd] at hu; cases hu
      cases hx with
      | cons h1 t1 =>
        cases t1
        cases hy with
        | cons h2 t2 =>
          cases t2
          rename_i x y
          cases x <;> simp [VSh1] at h1
          cases y <;> simp [VSh1] at h2
          subst h1; subst h2
          simp only [isAggD, packV, Bool.false_eq_true, if_false, List.headD_cons]
          rw [run_equalIn_int w D t _ _ _ _ hd]
          congr 1
          simp [cv]
          rfl
    · rename_i hu
      cases h
      rw [hd] at hu; cases hu
      cases hx with
      | cons h1 t1 =>
        cases t1
        cases hy with
        | cons h2 t2 =>
          cases t2
          rename_i x y
          cases x <;> simp [VSh1] at h1
          cases y <;> simp [VSh1] at h2
          rename_i a b
          simp only [isAggD, packV, Bool.false_eq_true, if_false, List.headD_cons]
          rw [run_equalIn_bool' w D t _ _ hd]
          congr 1
          cases a <;> cases b <;> simp [cv]
    · rename_i fs hu
      rw [hd] at hu; cases hu
      split at h
      · cases h
      · rename_i hst
        have hfo : P.fieldsOf t = fs := by simp [Program.fieldsOf, hd]
        simp only [isAggD, packV, if_true]
        rw [run_equalIn_struct w D t _ _ (by rw [hfo]; exact hd) (by simpa using hst), hfo]
        have := eqFields_flat (w := w) ih xs ys fs.toList 0 ks h (by simpa using hx) (by simpa using hy)
        simpa using this
    · rename_i n e hu
      rw [hd] at hu; cases hu
      split at h
      · split at h
        · rename_i ks' s h1 hs
          split at h
          · rename_i hsl
            cases h
            obtain ⟨i, hi, hsi⟩ := sizeT_spec hs
            obtain ⟨dsc', hd', hone⟩ := flat_desc h1
            simp only [isAggD, packV, if_true]
            rw [run_equalIn_array w D _ _ hd hi]
            have hco : P.cellsOf e = s := by simp [Program.cellsOf, hi, hsi]
            rw [hco, List.range_eq_range']
            have := eqItems_flat (w := w) hd' hs hsl (fun e => by obtain ⟨k, rfl⟩ := hone e; exact hsl) (fun a b ha hb => ih e ks' h1 a b ha hb dsc' hd') xs ys n 0 (by simpa using hx) (by simpa using hy)
            simpa using this
          · cases h
        · cases h
      · cases h
    · cases h
end

end Go.Proofs.Ytocoadpepofbbaa.AM

/-
  COMPARISONS OF AGGREGATES, MAPS, append and copy.
-/
set_option linter.unusedVariables false
set_option linter.unusedSimpArgs false
namespace Go.Proofs.Ytocoadpepofbbaa.AM
open Go

section
variable {P : Program} {B : Nat} {ι : Emb} {h : List ABlk} {w : World} {e : List AV} {nt : Nat} {o : Oper} {a : Act} {r : OpR} {call : Tgt → List AV → List ABlk → Option Ret}

theorem beq_decide (x y : List Int) : (x == y) = decide (x = y) := by
  rw [Bool.eq_iff_iff]; simp

theorem ok_eqAgg {ne : Bool} {t u : TypeId} {x y : Operand} (hop : o.op = .binOp (if ne then .neq else .eql) t x y u) {dsc : TypeDesc} (ht : P.underlying t = some dsc) (hag : isAggD dsc = true) {ks : List (Option IntKind)} (hk : flatT P true 20 t = some ks)
    (hg : P.eqGuardType P.depth t = false) {ax ay : AOpd} (hx : opd x = some ax) (hy : opd y = some ay) (he : ERel ι nt e a.tmps)
    (hr : aOp call e h (.eqAgg ks ne ax ay) = some r) : OpOk P B ι h w o a r := by
  simp only [aOp, Option.map_eq_some_iff] at hr
  obtain ⟨v, hv, rfl⟩ := hr
  have hx' := opd_sound he hx
  have hy' := opd_sound he hy
  unfold aEqAgg at hv
  split at hv
  · rename_i cs ds heq heq'
    rw [heq] at hx'
    rw [heq'] at hy'
    split at hv
    · rename_i hsh
      simp only [Bool.and_eq_true] at hsh
      obtain ⟨xs, h1, hx'⟩ := hx'.inv_agg
      obtain ⟨ys, h2, hy'⟩ := hy'.inv_agg
      obtain ⟨s1, c1⟩ := shapeL_rel hsh.1 h1
      obtain ⟨s2, c2⟩ := shapeL_rel hsh.2 h2
      rw [c1, c2] at hv
      simp only [Option.some.injEq] at hv
      subst hv
      have hE := eqIn_flat (P := P) (w := w) 20 t ks hk 10000 (by omega) xs ys s1 s2 dsc ht
      rw [hag] at hE
      simp only [packV, if_true] at hE
      rw [beq_decide]
      refine OpOk.pure (x := .bool (if ne then !decide (xs.map cv = ys.map cv) else decide (xs.map cv = ys.map cv))) ?_ (.bool _)
      cases ne
      · simp only [execOp, hop, hx', hy', Bool.false_eq_true, if_false, Sem.run_bind, run_eqGuard_agg w _ t x y _ _ hg, run_eql_struct, hE, Result.andThen_ok, Sem.run_pure]
      · simp only [execOp, hop, hx', hy', if_true, Sem.run_bind, run_eqGuard_agg w _ t x y _ _ hg, run_neq_struct, hE, Result.andThen_ok, Sem.run_pure]
    · cases hv
  · cases hv

/-! ### maps -/
/-- The cells of a key. -/
def kcells (ag : Bool) (x : Value) : List Value := if ag then x.cells.toList else [x]

theorem shapeK_rel {ag : Bool} {ks : List (Option IntKind)} {v : AV} {x : Value} (hs : shapeK ag ks v = true) (hv : VRel ι v x) : ∃ xs, x = packV ag xs ∧ VSh ks xs ∧ codeD v = xs.map cv := by
  unfold shapeK at hs
  split at hs
  · rename_i cs
    simp only [Bool.and_eq_true] at hs
    obtain ⟨xs, h1, rfl⟩ := hv.inv_agg
    obtain ⟨s1, c1⟩ := shapeL_rel hs.2 h1
    refine ⟨xs, by simp [packV, hs.1], s1, ?_⟩
    simp [codeD, code, c1]
  · rename_i hna
    simp only [Bool.and_eq_true, Bool.not_eq_true'] at hs
    obtain ⟨s1, c1⟩ := shapeL_rel (ι := ι) hs.2 (.cons hv .nil)
    refine ⟨[x], by simp [packV, hs.1], s1, ?_⟩
    have : code v = codeL [v] := by
      cases v <;> first | rfl | (exfalso; exact hna _ rfl)
    simp [codeD, this, c1]

theorem keyT_spec {t : TypeId} {kk : Bool × List (Option IntKind)} (hk : keyT P t = some kk) : ∃ dsc, P.underlying t = some dsc ∧ flatT P false 20 t = some kk.2 ∧ kk.1 = isAggD dsc := by
  unfold keyT at hk
  split at hk
  · rename_i d hd
    simp only [Option.map_eq_some_iff] at hk
    obtain ⟨ks, h1, rfl⟩ := hk
    exact ⟨d, hd, h1, rfl⟩
  · cases hk

theorem run_equal_key {t : TypeId} {kk : Bool × List (Option IntKind)} (hk : keyT P t = some kk) {xs ys : List Value} (hx : VSh kk.2 xs) (hy : VSh kk.2 ys) :
    (Op.equal t (packV kk.1 xs) (packV kk.1 ys)).run P w = .ok (decide (xs.map cv = ys.map cv)) w := by
  obtain ⟨dsc, hd, hf, ha⟩ := keyT_spec hk
  rw [ha]
  exact eqIn_flat (P := P) (w := w) 20 t kk.2 hf 10000 (by omega) xs ys hx hy dsc hd

theorem check_flat (em : Bool) : ∀ (d : Nat) (t : TypeId) (ks : List (Option IntKind)), flatT P false d t = some ks → ∀ D, d ≤ D → ∀ xs, VSh ks xs → ∀ dsc, P.underlying t = some dsc → ∀ w : World,
    (Instr.checkKey em D t (packV (isAggD dsc) xs)).run P w = .ok () w
  | 0, t, ks, h, D, hD, xs, hx, dsc, hd, w => by simp [flatT] at h
  | d + 1, t, ks, h, D, hD, xs, hx, dsc, hd, w => by
    obtain ⟨D, rfl⟩ : ∃ m, D = m + 1 := ⟨D - 1, by omega⟩
    have ih := fun t ks h => check_flat em d t ks h D (by omega)
    simp only [flatT] at h
    split at h
    · rename_i k hu
      cases h
      rw [hd] at hu; cases hu
      cases hx with
      | cons h1 t1 =>
        cases t1
        rename_i x
        cases x <;> simp [VSh1] at h1
        simp only [isAggD, packV, Bool.false_eq_true, if_false, List.headD_cons, Instr.checkKey, Sem.run_bind, run_underlying hd, Result.andThen_ok, Sem.run_pure]
    · rename_i hu
      cases h
      rw [hd] at hu; cases hu
      cases hx with
      | cons h1 t1 =>
        cases t1
        rename_i x
        cases x <;> simp [VSh1] at h1
        simp only [isAggD, packV, Bool.false_eq_true, if_false, List.headD_cons, Instr.checkKey, Sem.run_bind, run_underlying hd, Result.andThen_ok, Sem.run_pure]
    · rename_i fs hu
      rw [hd] at hu; cases hu
      split at h
      · cases h
      · rename_i hst
        simp only [isAggD, packV, if_true, Instr.checkKey, Sem.run_bind, run_underlying hd, Result.andThen_ok]
        rw [← Array.forIn_toList]
        have key : ∀ (fs : List Field) (off : Nat) (ks : List (Option IntKind)), flatFs (flatT P false d) P off fs = some ks → VSh ks (xs.drop off) →
            (forIn fs PUnit.unit fun f (_ : PUnit) => (do
              if f.name ≠ "_" then do
                let v ← part f.type xs.toArray f.offset
                Instr.checkKey em D f.type v
                pure (ForInStep.yield PUnit.unit)
              else pure (ForInStep.yield PUnit.unit) : Sem (ForInStep PUnit))).run P w = .ok PUnit.unit w := by
          intro fs
          induction fs with
          | nil => intro off ks _ _; simp
          | cons f fs ihf =>
            intro off ks hf hX
            simp only [flatFs] at hf
            split at hf
            · rename_i k1 s h1 hs
              split at hf
              · cases hf
              · rename_i hcond
                split at hf
                · rename_i r hr
                  cases hf
                  have hn : f.name ≠ "_" := fun e => hcond (.inl e)
                  have ho : f.offset = off := Classical.byContradiction fun e => hcond (.inr (.inl e))
                  have hsl : s = k1.length := Classical.byContradiction fun e => hcond (.inr (.inr e))
                  obtain ⟨dsc, hd', hone⟩ := flat_desc h1
                  obtain ⟨x1, x2⟩ := hX.split
                  have lX := hX.length
                  simp only [List.length_append, List.length_drop] at lX
                  have h11 : isAggD dsc = false → s = 1 := fun e => by obtain ⟨k, rfl⟩ := hone e; exact hsl
                  have pX : (part f.type xs.toArray off).run P w = .ok (packV (isAggD dsc) ((xs.drop off).take s)) w := by
                    by_cases h0 : s = 0
                    · have : isAggD dsc = true := by
                        cases e : isAggD dsc
                        · have := h11 e; omega
                        · rfl
                      obtain ⟨i, hi, hsi⟩ := sizeT_spec hs
                      unfold part
                      subst h0
                      simp [run_isAgg hd', this, run_sizeOf hi, hsi, packV]
                    · exact part_flat hd' hs xs off h11 (by omega) w
                  have hE := ih f.type k1 h1 _ x1 dsc hd' w
                  rw [← hsl] at hE x2
                  rw [List.drop_drop] at x2
                  have hrec := ihf (off + s) r hr x2
                  rw [List.forIn_cons]
                  simp only [if_pos hn, Sem.run_bind, ho, pX, hE, Result.andThen_ok, Sem.run_pure]
                  exact hrec
                · cases hf
            · cases hf
        have := key fs.toList 0 ks h (by simpa using hx)
        simp only [ne_eq, ite_not] at this ⊢
        rw [this]
        rfl
    · split at h
      · rename_i h0; simp at h0
      · cases h
    · cases h
end
end Go.Proofs.Ytocoadpepofbbaa.AM

/-
  MAPS: look-up and update.
-/
set_option linter.unusedVariables false
set_option linter.unusedSimpArgs false
namespace Go.Proofs.Ytocoadpepofbbaa.AM
open Go

section
variable {P : Program} {B : Nat} {ι : Emb} {h : List ABlk} {w : World} {e : List AV} {nt : Nat} {o : Oper} {a : Act} {r : OpR} {call : Tgt → List AV → List ABlk → Option Ret}

/-- What a search finds. -/
def FindRel (ι : Emb) (ms : List MapEntry) (i : Nat) : Option (Nat × AV) → Option (Nat × Value) → Prop
  | none, none => True
  | some (j, v), some (j', v') => j = j' ∧ i ≤ j ∧ VRel ι v v' ∧ ∃ m, ms[j - i]? = some m ∧ m.val = v'
  | _, _ => False

theorem packV_str {t : TypeId} {kk : Bool × List (Option IntKind)} (hk : keyT P t = some kk) {xs : List Value} (hx : VSh kk.2 xs) {b : ByteArray} (hs : packV kk.1 xs = .string b) : False := by
  obtain ⟨dsc, hd, hf, ha⟩ := keyT_spec hk
  cases hag : kk.1
  · obtain ⟨d2, hd2, hone⟩ := flat_desc hf
    rw [hd] at hd2; cases hd2
    obtain ⟨kind, hks⟩ := hone (by rw [← ha]; exact hag)
    rw [hks] at hx
    cases hx with
    | cons h1 h2 =>
      cases h2
      rename_i x
      rw [hag] at hs
      simp only [packV, Bool.false_eq_true, if_false, List.headD_cons] at hs
      subst hs
      cases kind <;> simp [VSh1] at h1
  · rw [hag] at hs
    simp [packV] at hs

theorem find_rel {t : TypeId} {kk : Bool × List (Option IntKind)} (hk : keyT P t = some kk) {xs : List Value} (hx : VSh kk.2 xs) :
    ∀ {es : List (AV × AV)} {ms : List MapEntry} (i : Nat), ERelK ι es ms → (es.all fun p => shapeK kk.1 kk.2 p.1) = true →
      ∃ f, (Instr.findAsking t (packV kk.1 xs) ms i).run P w = .ok f w ∧ FindRel ι ms i (aFind (xs.map cv) es i) f ∧
        (∀ dsc, P.underlying t = some dsc → Instr.findNow dsc (packV kk.1 xs) ms i = some f ∨ Instr.findNow dsc (packV kk.1 xs) ms i = none) ∧
        (∀ j v, f = some (j, v) → ∃ m, ms[j - i]? = some m ∧ m.key = packV kk.1 xs)
  | [], _, i, .nil, _ => ⟨none, by simp [Instr.findAsking], trivial, fun _ _ => .inl rfl, by simp⟩
  | (k, v) :: es, _, i, .cons (m := m) (ms := ms) hk' hv' ht, hs => by
    simp only [List.all_cons, Bool.and_eq_true] at hs
    obtain ⟨ys, h1, h2, h3⟩ := shapeK_rel hs.1 hk'
    obtain ⟨f, f1, f2, f3, f4⟩ := find_rel hk hx (i + 1) ht hs.2
    have hE := run_equal_key (P := P) (w := w) hk hx h2
    by_cases heq : xs.map cv = ys.map cv
    · refine ⟨some (i, m.val), ?_, ?_, ?_, ?_⟩
      · simp only [Instr.findAsking, Sem.run_bind, h1, hE, Result.andThen_ok, heq, decide_true, if_true, Sem.run_pure]
      · simp only [aFind, h3, heq, if_true]
        exact ⟨rfl, Nat.le_refl _, hv', m, by simp, rfl⟩
      · intro dsc hd
        simp only [Instr.findNow, h1]
        obtain ⟨dsc', hd', _, ha⟩ := keyT_spec hk
        rw [hd] at hd'; cases hd'
        have hxy := hx.eq h2 heq
        subst hxy
        cases hsn : Instr.sameNow dsc (packV kk.1 xs) (packV kk.1 xs) with
        | none => exact .inr rfl
        | some b =>
          left
          have : b = true := by
            unfold Instr.sameNow at hsn
            split at hsn
            · rename_i ha' hb'
              rw [ha'] at hb'
              cases hb'
              simpa using hsn.symm
            · rename_i ha' hb'
              exact (packV_str hk hx ha').elim
            · rename_i ha' hb'
              rw [ha'] at hb'
              cases hb'
              simpa using hsn.symm
            · cases hsn
          subst this
          rfl
      · intro j v' hj
        cases hj
        exact ⟨m, by simp, by rw [h1, hx.eq h2 heq]⟩
    · refine ⟨f, ?_, ?_, ?_, ?_⟩
      · simp only [Instr.findAsking, Sem.run_bind, h1, hE, Result.andThen_ok, heq, decide_false, Bool.false_eq_true, if_false]
        exact f1
      · have hne : ¬ ys.map cv = xs.map cv := fun e => heq e.symm
        simp only [aFind, h3, hne, if_false]
        cases ha : aFind (xs.map cv) es (i + 1) with
        | none =>
          rw [ha] at f2
          cases f with
          | none => trivial
          | some q => exact f2.elim
        | some p =>
          rw [ha] at f2
          cases f with
          | none => exact f2.elim
          | some q =>
            obtain ⟨g1, g2, g3, m', g4, g5⟩ := f2
            refine ⟨g1, by omega, g3, m', ?_, g5⟩
            rw [show p.1 - i = (p.1 - (i + 1)) + 1 from by omega]
            simpa using g4
      · intro dsc hd
        simp only [Instr.findNow, h1]
        cases hsn : Instr.sameNow dsc (packV kk.1 xs) (packV kk.1 ys) with
        | none => exact .inr rfl
        | some b =>
          have : b = false := by
            obtain ⟨dsc', hd', hfl, ha⟩ := keyT_spec hk
            rw [hd] at hd'; cases hd'
            have hag : kk.1 = false := by
              rw [ha]
              unfold Instr.sameNow at hsn
              split at hsn <;> first | rfl | (cases hsn)
            rw [hag] at hsn
            obtain ⟨d2, hd2, hone⟩ := flat_desc hfl
            rw [hd] at hd2; cases hd2
            obtain ⟨kind, hks⟩ := hone (by rw [← ha]; exact hag)
            rw [hks] at hx h2
            cases hx with
            | cons hx1 hx2 =>
              cases hx2
              cases h2 with
              | cons hy1 hy2 =>
                cases hy2
                rename_i x y
                simp only [packV, Bool.false_eq_true, if_false, List.headD_cons] at hsn
                simp only [List.map_cons, List.map_nil, List.cons.injEq, and_true] at heq
                unfold Instr.sameNow at hsn
                split at hsn
                · split at hsn
                  · cases hsn
                    simpa [cv] using heq
                  · cases hsn
                · rename_i hs'
                  cases kind <;> simp [VSh1] at hx1
                · rename_i p q
                  cases hsn
                  cases p <;> cases q <;> simp [cv] at heq ⊢
                · cases hsn
          subst this
          exact f3 dsc hd
      · intro j v' hj
        obtain ⟨m', g1, g2⟩ := f4 j v' hj
        rw [hj] at f2
        cases ha : aFind (xs.map cv) es (i + 1) with
        | none => rw [ha] at f2; exact f2.elim
        | some p =>
          rw [ha] at f2
          obtain ⟨g3, g4, _⟩ := f2
          refine ⟨m', ?_, g2⟩
          rw [show j - i = (j - (i + 1)) + 1 from by omega]
          simpa using g1

theorem run_getObj {r : Nat} {ob : Obj} (hr : w.heap[r]? = some ob) (hc : ∀ c e f, ob ≠ .cells c e f) : (getObj r).run P w = .ok ob w := by
  cases ob with
  | cells c e f => exact absurd rfl (hc _ _ _)
  | _ => simp only [getObj, Sem.run, hr]
def World.putObj (w : World) (r : Nat) (ob : Obj) : World := { w with heap := w.heap.setIfInBounds r ob }
theorem run_setObj {r : Nat} {ob ob' : Obj} (hr : w.heap[r]? = some ob) (hc : ∀ c e f, ob ≠ .cells c e f) : (setObj r ob').run P w = .ok () (World.putObj w r ob') := by
  cases ob with
  | cells c e f => exact absurd rfl (hc _ _ _)
  | _ => simp only [setObj, Sem.run, hr, World.putObj]
theorem misc_putObj (w : World) (r : Nat) (ob : Obj) : Misc w (World.putObj w r ob) := ⟨rfl, rfl, rfl, by simp [World.putObj]⟩
theorem putObj_other (w : World) (r : Nat) (ob : Obj) {c : Nat} (hc : c ≠ r) : (World.putObj w r ob).heap[c]? = w.heap[c]? := by
  simp only [World.putObj, Array.getElem?_setIfInBounds]
  rw [if_neg (fun e => hc e.symm)]
theorem putObj_same (w : World) (r : Nat) (ob : Obj) (hr : r < w.heap.size) : (World.putObj w r ob).heap[r]? = some ob := by
  simp only [World.putObj, Array.getElem?_setIfInBounds]
  simp [hr]

theorem run_findKey_rel {t : TypeId} {kk : Bool × List (Option IntKind)} (hk : keyT P t = some kk) {xs : List Value} (hx : VSh kk.2 xs) {es : List (AV × AV)} {ms : List MapEntry} (hr : ERelK ι es ms) (hs : (es.all fun p => shapeK kk.1 kk.2 p.1) = true) :
    ∃ f, (Instr.findKey t (packV kk.1 xs) ms).run P w = .ok f w ∧ FindRel ι ms 0 (aFind (xs.map cv) es 0) f ∧ (∀ j v, f = some (j, v) → ∃ m, ms[j]? = some m ∧ m.key = packV kk.1 xs) := by
  obtain ⟨f, f1, f2, f3, f4⟩ := find_rel (P := P) (w := w) hk hx 0 hr hs
  obtain ⟨dsc, hd, _, _⟩ := keyT_spec hk
  refine ⟨f, ?_, f2, fun j v hj => by simpa using f4 j v hj⟩
  unfold Instr.findKey
  simp only [Sem.run_bind, run_underlying hd, Result.andThen_ok]
  rcases f3 dsc hd with h1 | h1
  · simp only [h1, Sem.run_pure]
  · simp only [h1]; exact f1

theorem run_check_key {t : TypeId} {kk : Bool × List (Option IntKind)} (hk : keyT P t = some kk) {xs : List Value} (hx : VSh kk.2 xs) (em : Bool) : (Instr.checkKey em 10000 t (packV kk.1 xs)).run P w = .ok () w := by
  obtain ⟨dsc, hd, hf, ha⟩ := keyT_spec hk
  rw [ha]
  exact check_flat em 20 t kk.2 hf 10000 (by omega) xs hx dsc hd w

theorem ok_lookup {t kt el : TypeId} {x y : Operand} {ok : Bool} (hop : o.op = .lookup t x y ok) (ht : P.underlying t = some (.map kt el)) {kk : Bool × List (Option IntKind)} (hk : keyT P kt = some kk) {i : TypeInfo} (hi : P.info? el = some i) {z : Value} (hz : i.zero = some z) {az : AV} (haz : toAV z = some az)
    {ax ay : AOpd} (hx : opd x = some ax) (hy : opd y = some ay) (he : ERel ι nt e a.tmps)
    (hblk : ∀ acc, r.acc = some acc → ∀ b ∈ acc, ∀ k, h[b]? = some k → BRel P B ι w b k) (hr : aOp call e h (.lookup kk.1 kk.2 az ax ay ok) = some r) : OpOk P B ι h w o a r := by
  simp only [aOp] at hr
  have hx' := opd_sound he hx
  have hy' := opd_sound he hy
  have hzr : VRel ι az z := toAV_sound ι z haz
  have hzrun := run_zeroValue (P := P) hi hz w
  split at hr
  · rename_i hsh
    obtain ⟨xs, h1, h2, h3⟩ := shapeK_rel hsh hy'
    split at hr
    · rename_i heq
      cases hr
      rw [heq] at hx'
      have hx' := hx'.inv_mapN
      refine OpOk.pure (x := if ok then .tuple #[z, .bool false] else z) ?_ ?_
      · simp only [execOp, hop, hx', h1, Instr.lookup, Sem.run_bind, run_underlying ht, Result.andThen_ok, Sem.run_pure, run_check_key hk h2, hzrun]
        have hf : (Instr.findKey kt (packV kk.1 xs) (#[] : Array MapEntry).toList).run P w = .ok none w := by
          obtain ⟨f, f1, f2, _⟩ := run_findKey_rel (P := P) (w := w) (ι := ι) hk h2 .nil rfl
          cases f with
          | none => exact f1
          | some q => exact f2.elim
        simp only [hf, Result.andThen_ok, Sem.run_bind, hzrun, Sem.run_pure]
      · cases ok
        · exact hzr
        · exact .tup (vs := [z, .bool false]) (.cons hzr (.cons (.bool _) .nil))
    · rename_i rr heq
      rw [heq] at hx'
      obtain ⟨l, hl, hx'⟩ := hx'.inv_map
      split at hr
      · rename_i ag' ks' es hb
        split at hr
        · rename_i hcond
          obtain ⟨rfl, rfl⟩ := hcond
          have hacc : r.acc = some [rr] := by split at hr <;> cases hr <;> rfl
          obtain ⟨hB', hall, ms, ck, hm, hrel⟩ := hblk _ hacc rr (by simp) _ hb l hl
          obtain ⟨f, f1, f2, _⟩ := run_findKey_rel (P := P) (w := w) hk h2 hrel hall
          have hget := run_getObj (P := P) hm (by intro c e f hh; cases hh)
          have hrun : ∀ v' : Value, (match f with | some (_, v) => (v, true) | none => (z, false)) = (v', f.isSome) →
              (execOp a.eval o).run P w = .ok (.value (if ok then .tuple #[v', .bool f.isSome] else v')) w := by
            intro v' hv'
            simp only [execOp, hop, hx', h1, Instr.lookup, Sem.run_bind, run_underlying ht, Result.andThen_ok, Sem.run_pure, hget, run_check_key hk h2, f1]
            cases f with
            | none =>
              simp only [Sem.run_bind, hzrun, Result.andThen_ok, Sem.run_pure] at hv' ⊢
              cases hv'; rfl
            | some q =>
              simp only [Sem.run_pure, Result.andThen_ok] at hv' ⊢
              cases hv'; rfl
          rw [h3] at hr
          cases ha : aFind (xs.map cv) es 0 with
          | none =>
            rw [ha] at hr f2
            cases hr
            cases f with
            | some q => exact f2.elim
            | none =>
              refine OpOk.pure (hrun z rfl) ?_
              cases ok
              · exact hzr
              · exact .tup (vs := [z, .bool false]) (.cons hzr (.cons (.bool _) .nil))
          | some p =>
            rw [ha] at hr f2
            cases hr
            cases f with
            | none => exact f2.elim
            | some q =>
              obtain ⟨_, _, g3, _⟩ := f2
              refine OpOk.pure (hrun q.2 rfl) ?_
              cases ok
              · exact g3
              · exact .tup (vs := [q.2, .bool true]) (.cons g3 (.cons (.bool _) .nil))
        · cases hr
      · cases hr
    · cases hr
  · cases hr

theorem sameBits_flat : ∀ {ks : List (Option IntKind)} {xs : List Value}, VSh ks xs → ∀ n, (xs.zip xs).all (fun p => Instr.sameBits n p.1 p.2) = true
  | _, _, .nil, n => rfl
  | k :: _, x :: _, .cons h t, n => by
    simp only [List.zip_cons_cons, List.all_cons, Bool.and_eq_true]
    refine ⟨?_, sameBits_flat t n⟩
    cases k <;> cases x <;> simp [VSh1] at h
    · cases n <;> simp [Instr.sameBits]
    · cases n <;> simp [Instr.sameBits]
theorem sameBits_key {t : TypeId} {kk : Bool × List (Option IntKind)} (hk : keyT P t = some kk) {xs : List Value} (hx : VSh kk.2 xs) : Instr.sameBits 10000 (packV kk.1 xs) (packV kk.1 xs) = true := by
  obtain ⟨dsc, hd, hf, ha⟩ := keyT_spec hk
  cases hag : kk.1
  · obtain ⟨d2, hd2, hone⟩ := flat_desc hf
    rw [hd] at hd2; cases hd2
    obtain ⟨kind, hks⟩ := hone (by rw [← ha]; exact hag)
    rw [hks] at hx
    cases hx with
    | cons h1 h2 =>
      cases h2
      rename_i x
      cases kind <;> cases x <;> simp [VSh1] at h1 <;> simp [packV, Instr.sameBits]
  · simp only [packV, if_true]
    have := sameBits_flat hx 9999
    simp only [Instr.sameBits, Bool.and_eq_true, beq_self_eq_true, true_and]
    simpa using this

theorem ERelK.set {ι : Emb} : ∀ {es : List (AV × AV)} {ms : List MapEntry} (i : Nat) {k v : AV} {x y : Value}, ERelK ι es ms → VRel ι k x → VRel ι v y →
    ERelK ι (es.set i (k, v)) (ms.modify i fun m => { m with key := x, val := y })
  | _, _, i, _, _, _, _, .nil, _, _ => by cases i <;> exact .nil
  | _, _, 0, _, _, _, _, .cons _ _ t, hk, hv => .cons hk hv t
  | _, _, i + 1, _, _, _, _, .cons k0 v0 t, hk, hv => .cons k0 v0 (ERelK.set i t hk hv)
theorem ERelK.snoc {ι : Emb} : ∀ {es : List (AV × AV)} {ms : List MapEntry} {k v : AV} {m : MapEntry}, ERelK ι es ms → VRel ι k m.key → VRel ι v m.val → ERelK ι (es ++ [(k, v)]) (ms ++ [m])
  | _, _, _, _, _, .nil, hk, hv => .cons hk hv .nil
  | _, _, _, _, _, .cons k0 v0 t, hk, hv => .cons k0 v0 (ERelK.snoc t hk hv)

theorem ok_mapUpd {t kt el : TypeId} {x y z : Operand} (hop : o.op = .mapUpdate t x y z) (ht : P.underlying t = some (.map kt el)) {kk : Bool × List (Option IntKind)} (hk : keyT P kt = some kk)
    {ax ay az : AOpd} (hx : opd x = some ax) (hy : opd y = some ay) (hz : opd z = some az) (he : ERel ι nt e a.tmps)
    (hblk : ∀ acc, r.acc = some acc → ∀ b ∈ acc, ∀ k, h[b]? = some k → BRel P B ι w b k) (hr : aOp call e h (.mapUpd kk.1 kk.2 ax ay az) = some r) : OpOk P B ι h w o a r := by
  simp only [aOp] at hr
  have hx' := opd_sound he hx
  have hy' := opd_sound he hy
  have hz' := opd_sound he hz
  split at hr
  · rename_i hsh
    obtain ⟨xs, h1, h2, h3⟩ := shapeK_rel hsh hy'
    split at hr
    · rename_i rr heq
      rw [heq] at hx'
      obtain ⟨l, hl, hx'⟩ := hx'.inv_map
      split at hr
      · rename_i ag' ks' es hb
        split at hr
        · rename_i hcond
          obtain ⟨rfl, rfl⟩ := hcond
          have hacc : r.acc = some [rr] := by split at hr <;> cases hr <;> rfl
          obtain ⟨hB', hall, ms, ck, hm, hrel⟩ := hblk _ hacc rr (by simp) _ hb l hl
          obtain ⟨f, f1, f2, f3⟩ := run_findKey_rel (P := P) (w := w) hk h2 hrel hall
          have hget := run_getObj (P := P) hm (by intro c e f hh; cases hh)
          have hlt : l.c < w.heap.size := (Array.getElem?_eq_some_iff.1 hm).1
          have fin : ∀ (es' : List (AV × AV)) (ms' : Array MapEntry) (ck' : Nat), (execOp a.eval o).run P w = .ok .skip (World.putObj w l.c (.map ms' ck')) → ERelK ι es' ms'.toList → (es'.all fun p => shapeK kk.1 kk.2 p.1) = true →
              OpOk P B ι h w o a ⟨undefA, h.set rr (.map kk.1 kk.2 es'), [rr], lkOf rr [av e az], some [rr]⟩ := by
            intro es' ms' ck' hrun hrel' hall'
            refine ⟨ι, undef, _, ⟨_, hrun, .inr ⟨rfl, rfl⟩⟩, undef_rel _, Ext.write (k := .map kk.1 kk.2 es) (l := l) hb rfl rfl rfl hl (misc_putObj _ _ _) (fun c hne hc => putObj_other _ _ _ hne) ?_⟩
            intro l' hl'
            rw [hl] at hl'; cases hl'
            exact ⟨hB', hall', ms', ck', putObj_same _ _ _ hlt, hrel'⟩
          rw [h3] at hr
          cases ha : aFind (xs.map cv) es 0 with
          | none =>
            rw [ha] at hr f2
            cases hr
            cases f with
            | some q => exact f2.elim
            | none =>
              refine fin _ (ms.push { key := a.eval y, val := a.eval z, born := ck }) (ck + 1) ?_ ?_ ?_
              · simp only [execOp, hop, hx', h1, Instr.mapUpdate, Sem.run_bind, run_underlying ht, Result.andThen_ok, hget, run_check_key hk h2, f1, run_setObj hm (by intro c e f hh; cases hh), Sem.run_pure]
              · simpa using hrel.snoc hy' hz'
              · simp only [List.all_append, hall, Bool.true_and, List.all_cons, List.all_nil, Bool.and_true]
                exact hsh
          | some p =>
            rw [ha] at hr f2
            cases hr
            cases f with
            | none => exact f2.elim
            | some q =>
              obtain ⟨g1, _, g3, _⟩ := f2
              obtain ⟨m, g4, g5⟩ := f3 q.1 q.2 rfl
              refine fin _ (ms.modify p.1 fun m => { m with key := a.eval y, val := a.eval z }) ck ?_ ?_ ?_
              · have hkey : (Instr.keyThatStays (((ms[q.1]?).map (·.key)).getD (packV kk.1 xs)) (packV kk.1 xs)).run P w = .ok (packV kk.1 xs) w := by
                  have : ms[q.1]? = some m := by simpa using g4
                  simp only [this, Option.map_some, Option.getD_some, g5]
                  unfold Instr.keyThatStays
                  rw [if_pos (sameBits_key hk h2)]
                  rfl
                simp only [execOp, hop, hx', h1, Instr.mapUpdate, Sem.run_bind, run_underlying ht, Result.andThen_ok, hget, run_check_key hk h2, f1, hkey, run_setObj hm (by intro c e f hh; cases hh), Sem.run_pure]
                rw [g1]
              · have := hrel.set p.1 hy' hz'
                simpa using this
              · rw [List.all_eq_true] at hall ⊢
                intro q' hq'
                rcases List.mem_or_eq_of_mem_set hq' with h5 | h5
                · exact hall _ h5
                · rw [h5]; exact hsh
        · cases hr
      · cases hr
    · cases hr
  · cases hr
end
end Go.Proofs.Ytocoadpepofbbaa.AM
