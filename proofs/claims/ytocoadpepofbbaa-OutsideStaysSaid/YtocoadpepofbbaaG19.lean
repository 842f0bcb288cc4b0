/-
  THE PACKAGE outside, part 9: the classes of vertices.
-/
import Derived.Test.YtocoadpepofbbaaG18
import Derived.Test.YtocoadpepofbbaaRows
import Derived.ProofKit
set_option linter.unusedVariables false
set_option linter.unusedSimpArgs false
set_option maxRecDepth 10000
namespace Go.Proofs.Ytocoadpepofbbaa.AM
open Go

/-- One face more of a corner that has been met. -/
def cStep (G : List F) (u v : Nat) (s : List Bool × List Pl) (f : Nat) : List Bool × List Pl :=
  match G[4 * u + f]? with
  | none => s
  | some x => if f = v then s else match s.1[4 * x.t + x.p v]? with
    | some false => (s.1.set (4 * x.t + x.p v) true, s.2 ++ [(x.t, x.p v)])
    | _ => s
def cFold (G : List F) (u v : Nat) (s : List Bool × List Pl) (k : Nat) : List Bool × List Pl := (List.range k).foldl (cStep G u v) s
theorem cFold_succ (G : List F) (u v : Nat) (s : List Bool × List Pl) (k : Nat) : cFold G u v s (k + 1) = cStep G u v (cFold G u v s k) k := by simp [cFold, List.range_succ]
def nfal (l : List Bool) : Nat := l.countP (fun b => !b)
theorem nfal_set : ∀ {l : List Bool} {b : Nat}, l[b]? = some false → nfal (l.set b true) + 1 = nfal l
  | [], _, h => by simp at h
  | y :: l, 0, h => by simp at h; subst h; simp [nfal]
  | y :: l, b + 1, h => by
    have := nfal_set (l := l) (b := b) (by simpa using h)
    simp only [nfal, List.set_cons_succ, List.countP_cons] at *
    omega
/-- The state of the search for a class. -/
structure CS (n C : Nat) (s : List Bool × List Pl) : Prop where
  len : s.1.length = 16 * n
  lt : ∀ q ∈ s.2, q.1 < 4 * n ∧ q.2 < 4
  cnt : nfal s.1 + s.2.length ≤ C
theorem F.ok.p {n : Nat} {x : F} (h : x.ok n) (v : Nat) : x.p v < 4 := by
  obtain ⟨_, h0, h1, h2, h3⟩ := h
  match v with
  | 0 => exact h0
  | 1 => exact h1
  | 2 => exact h2
  | v + 3 => exact h3
theorem cStep_cs {n C u v f : Nat} {G : List F} (hG : AllOk n G) {s : List Bool × List Pl} (H : CS n C s) : CS n C (cStep G u v s f) := by
  unfold cStep
  split
  · exact H
  · rename_i x hx
    have hxo := hG.2 x (List.mem_of_getElem? hx)
    split
    · exact H
    · split
      · rename_i hf
        have := nfal_set hf
        refine ⟨by simpa using H.len, fun q hq => ?_, ?_⟩
        · rcases List.mem_append.mp hq with h | h
          · exact H.lt q h
          · rw [List.mem_singleton] at h; subst h; exact ⟨hxo.1, hxo.p v⟩
        · have := H.cnt; simp; omega
      · exact H
theorem cFold_cs {n C u v : Nat} {G : List F} (hG : AllOk n G) {s : List Bool × List Pl} (H : CS n C s) : ∀ k, CS n C (cFold G u v s k)
  | 0 => H
  | k + 1 => by rw [cFold_succ]; exact cStep_cs hG (cFold_cs hG H k)
theorem cStep_get {G : List F} {u v f k : Nat} {q : Pl} {s : List Bool × List Pl} (h : s.2[k]? = some q) : (cStep G u v s f).2[k]? = some q := by
  unfold cStep
  split
  · exact h
  · split
    · exact h
    · split
      · dsimp only; rw [List.getElem?_append_left (lt_get h)]; exact h
      · exact h
theorem cFold_get {G : List F} {u v k : Nat} {q : Pl} {s : List Bool × List Pl} (h : s.2[k]? = some q) : ∀ j, (cFold G u v s j).2[k]? = some q
  | 0 => h
  | j + 1 => by rw [cFold_succ]; exact cStep_get (cFold_get h j)

/-- The slice of corners, and its block among the newer ones. -/
def QC (h g0 : List ABlk) (jl : Nat) (L : List Pl) (v13 : AV) (g : List ABlk) : Prop :=
  (∃ c, (c = .u 2 ∨ c = .k L.length) ∧ v13 = .sl (some ⟨h.length + (jl + 1 + 1 + 1 + 1 + 1 + 1 + 1), L.length * 2, 0⟩) L.length c) ∧ g[jl]? = some (.row false (L.flatMap plC)) ∧ Upd g0 g [jl]

theorem QC.ext {h g0 g l : List ABlk} {jl : Nat} {L : List Pl} {v : AV} (H : QC h g0 jl L v g) : QC h g0 jl L v (g ++ l) := ⟨H.1, hget_some H.2.1, H.2.2.trans (Upd.app _ _ _)⟩
abbrev ML (h : List ABlk) (n : Nat) : AV := .sl (some ⟨h.length + 6, 4 * n * 4, 0⟩) (4 * n) (.k (4 * n))
abbrev k27 : List Nat := [1, 5, 6, 10, 11, 12, 14, 38, 39, 42]

theorem c27_l0_wp {Q : ExK} {h : List ABlk} {B0 B1 B2 B3 B4 B5 : ABlk} {n u v : Nat} {G : List F} (hG : AllOk n G) (hn : n ≤ 200) (hu : u < 4 * n) (hv : v < 4) {s : List Bool × List Pl} {C : Nat} (hC : C ≤ 10000) (hs : CS n C s) {g0 g : List ABlk} {jl : Nat} {e0 e : List AV}
    (K : KeepT k27 e0 e) (e9 : eget e 9 = ML h n) (e16 : eget e 16 = N v) (e80 : eget e 80 = .agg (((G.flatMap F.cells).drop (u * 20)).take 20)) (e81 : eget e 81 = I 0) (e13 : QC h g0 jl s.2 (eget e 13) g)
    (hQ : ∀ e' g', KeepT k27 e0 e' → eget e' 9 = ML h n → QC h g0 jl (cFold G u v s 4).2 (eget e' 13) g' → Q .normal e' (h ++ B0 :: B1 :: B2 :: B3 :: B4 :: B5 :: .row false ((cFold G u v s 4).1.map Bo) :: g') (M0 h)) :
    wp PR h.length false (.loop c27_l0) e (h ++ B0 :: B1 :: B2 :: B3 :: B4 :: B5 :: .row false (s.1.map Bo) :: g) (M0 h) (onBlk 6 Q) := by
  refine wp_range (n := 4) (fun f e H m => KeepT k27 e0 e ∧ eget e 9 = ML h n ∧ eget e 16 = N v ∧ eget e 80 = .agg (((G.flatMap F.cells).drop (u * 20)).take 20) ∧ m = M0 h ∧
    ∃ g, QC h g0 jl (cFold G u v s f).2 (eget e 13) g ∧ H = h ++ B0 :: B1 :: B2 :: B3 :: B4 :: B5 :: .row false ((cFold G u v s f).1.map Bo) :: g) (by omega) (by simp) ?_ ?_ ?_ e81 ?_ ?_
  · rintro i e h m t v (rfl | rfl | rfl) hJ <;> simpa using hJ
  · rintro i e h m _; rfl
  · exact ⟨K, e9, e16, e80, rfl, g, e13, rfl⟩
  · rintro f e _ _ hf ⟨K, e9, e16, e80, rfl, g, hq, rfl⟩ e81
    have hcs := cFold_cs hG hs (u := u) (v := v) f
    have hsucc := cFold_succ G u v s f
    obtain ⟨T, hT⟩ : ∃ T, T = cFold G u v s f := ⟨_, rfl⟩
    rw [← hT] at hcs hsucc hq ⊢
    have hq' := hq
    obtain ⟨⟨c, hc, e13⟩, hrow, hU⟩ := hq
    have hjl := hlt hrow
    have hGl := hG.1
    obtain ⟨x, hx⟩ : ∃ x, G[4 * u + f]? = some x := ⟨_, List.getElem?_eq_getElem (by omega)⟩
    have hxo := hG.2 x (List.mem_of_getElem? hx)
    have hxp := hxo.p v
    have hidx : List.take 5 (List.drop (f * 5) (List.take 20 (List.drop (u * 20) (G.flatMap F.cells)))) = x.cells := by
      rw [List.drop_take, List.take_take, List.drop_drop, show u * 20 + f * 5 = (4 * u + f) * 5 by omega, Nat.min_eq_left (by omega)]
      exact flatMap_at (k := 5) (fun _ => rfl) hx
    have hf4 : (f : Int) < 4 := by omega
    have hwr : wrN [AV.int .i64 0, AV.int .i64 0, AV.int .i64 0, AV.int .i64 0, AV.int .i64 0] 0 x.cells = x.cells := wrN_all rfl
    have hx0 : x.cells[0]? = some (N x.t) := rfl
    have hxv : x.cells[1 + v]? = some (N (x.p v)) := by
      match v, hv with
      | 0, _ => rfl
      | 1, _ => rfl
      | 2, _ => rfl
      | 3, _ => rfl
    have hone : x.cells.all AV.one = true := rfl
    have hxt : (x.t : Int) < 4 * (n : Int) := by have := hxo.1; omega
    have hvi : (v : Int) < 4 := by omega
    have hxpi : (x.p v : Int) < 4 := by omega
    have hTl := hcs.len
    have h44 : 4 * n * 4 = 16 * n := by omega
    obtain ⟨bm, hbm⟩ : ∃ bm, T.1[x.t * 4 + x.p v]? = some bm := ⟨_, List.getElem?_eq_getElem (by have := hxo.1; omega)⟩
    have hbm' : T.1[4 * x.t + x.p v]? = some bm := by rw [Nat.mul_comm]; exact hbm
    by_cases hfv : f = v
    · subst hfv
      have hst : cStep G u f T f = T := by simp [cStep, hx]
      simp [K, e9, e16, e80, e81, hf, hf4, hidx, hwr, hone, hsucc, hst, -getElem?_pos]
      exact hq'.ext
    · have hfi : ((f : Int) == v) = false := by simp; omega
      have hxt' := hxo.1
      cases bm with
      | true =>
        have hst : cStep G u v T f = T := by simp only [cStep, hx, if_neg hfv, hbm']
        simp [K, e9, e16, e80, e81, hf, hf4, hidx, hwr, hone, hfi, hsucc, hst, hx0, hxv, hvi, hxt, hxpi, hTl, h44, hbm, -getElem?_pos]
        exact hq'.ext
      | false =>
        have hst : cStep G u v T f = (T.1.set (4 * x.t + x.p v) true, T.2 ++ [(x.t, x.p v)]) := by simp only [cStep, hx, if_neg hfv, hbm']
        have hcnt := hcs.cnt
        have hby : (T.2.length + 1) * 16 ≤ 140737488355328 := by omega
        have hbd : x.t * 4 + x.p v + 1 ≤ 16 * n := by omega
        have hnl : ¬ (T.2.length + 1 ≤ T.2.length) := by omega
        have hfl : (T.2.flatMap plC).length = T.2.length * 2 := flatMap_len _ 2 (fun _ => rfl) _
        have htk : List.take (T.2.length * 2) (T.2.flatMap plC) = T.2.flatMap plC := List.take_of_length_le (by omega)
        rcases hc with rfl | rfl <;>
        · simp [K, e9, e13, e16, e80, e81, hf, hf4, hidx, hwr, hone, hfi, hsucc, hst, hx0, hxv, hvi, hxt, hxt', hxp, hxpi, hTl, h44, hbm, hrow, hjl, hget_old, hset_old, hfl, hby, hnl, htk, hbd, List.map_set, -getElem?_pos]
          refine ⟨?_, by rw [Nat.mul_comm x.t]⟩
          have c1 : ∃ c, (c = Cap.u 2 ∨ c = Cap.k (T.2 ++ [(x.t, x.p v)]).length) ∧ (AV.sl (some ⟨h.length + (jl + 1 + 1 + 1 + 1 + 1 + 1 + 1), T.2.length * 2 + 2, 0⟩) (T.2.length + 1) (Cap.u 2)) = .sl (some ⟨h.length + (jl + 1 + 1 + 1 + 1 + 1 + 1 + 1), (T.2 ++ [(x.t, x.p v)]).length * 2, 0⟩) (T.2 ++ [(x.t, x.p v)]).length c := ⟨.u 2, .inl rfl, by simp; omega⟩
          refine And.intro c1 (And.intro ?_ ?_)
          · rw [hget_old (by simpa using hjl), List.getElem?_set_self hjl]; simp [plC]
          · exact (hU.trans (Upd.set (by simp))).trans (Upd.app _ _ _)
  · rintro e _ m ⟨K, e9, e16, e80, rfl, g, hq, rfl⟩
    exact hQ _ _ K e9 hq

def cGo (G : List F) : Nat → List Bool × List Pl → Nat → List Bool
  | 0, s, _ => s.1
  | f + 1, s, k => match s.2[k]? with
    | none => s.1
    | some q => cGo G f (cFold G q.1 q.2 s 4) (k + 1)
abbrev k27b : List Nat := [1, 5, 6, 10, 11, 12, 38, 39, 42]

theorem c27_l1_wp {Q : ExK} {h : List ABlk} {B0 B1 B3 B5 : ABlk} {n : Nat} {G : List F} {cp : Cap} (hG : AllOk n G) (hn : n ≤ 200) {s : List Bool × List Pl} {C f : Nat} (hC : C ≤ 10000) (hs : CS n C s) (hf : C < f) {g0 g : List ABlk} {jl : Nat} {e0 e : List AV}
    (h5 : eget e0 5 = .ptr (some ⟨h.length + 4, 1, 0⟩)) (K : KeepT k27b e0 e) (e9 : eget e 9 = ML h n) (e14 : eget e 14 = I 0) (e13 : QC h g0 jl s.2 (eget e 13) g)
    (hQ : ∀ e' g', KeepT k27b e0 e' → eget e' 9 = ML h n → Upd g0 g' [jl] → Q .normal e' (h ++ B0 :: B1 :: .row false (G.flatMap F.cells) :: B3 :: .row false [.sl (some ⟨h.length + 2, 80 * n, 0⟩) (4 * n) cp] :: B5 :: .row false ((cGo G f s 0).map Bo) :: g') (M0 h)) :
    wp PR h.length false (.loop c27_l1) e (h ++ B0 :: B1 :: .row false (G.flatMap F.cells) :: B3 :: .row false [.sl (some ⟨h.length + 2, 80 * n, 0⟩) (4 * n) cp] :: B5 :: .row false (s.1.map Bo) :: g) (M0 h) (onBlk 4 Q) := by
  generalize hR : cGo G f s 0 = R at hQ
  refine wp_loopN (α := Nat × (List Bool × List Pl) × Nat) (fun a e H m => KeepT k27b e0 e ∧ eget e 9 = ML h n ∧ eget e 14 = N a.2.2 ∧ m = M0 h ∧ CS n C a.2.1 ∧ a.2.2 ≤ a.2.1.2.length ∧ C < a.1 + a.2.2 ∧ cGo G a.1 a.2.1 a.2.2 = R ∧
    ∃ g, QC h g0 jl a.2.1.2 (eget e 13) g ∧ H = h ++ B0 :: B1 :: .row false (G.flatMap F.cells) :: B3 :: .row false [.sl (some ⟨h.length + 2, 80 * n, 0⟩) (4 * n) cp] :: B5 :: .row false (a.2.1.1.map Bo) :: g)
    (fun a => a.1) (fun a => (a.1 - 1, cFold G ((a.2.1.2[a.2.2]?).getD (0, 0)).1 ((a.2.1.2[a.2.2]?).getD (0, 0)).2 a.2.1 4, a.2.2 + 1)) ?_ (a := (f, s, 0)) ?_
  · rintro ⟨f, S, k⟩ e _ _ ⟨K, e9, e14, rfl, hS, hk, hf, hw, g, hq, rfl⟩
    dsimp only at e14 hS hk hf hw hq
    have hq' := hq
    obtain ⟨⟨c, hc, e13⟩, hrow, hU⟩ := hq
    have hcnt := hS.cnt
    have e5 : eget e 5 = .ptr (some ⟨h.length + 4, 1, 0⟩) := by rw [K 5 (by simp)]; exact h5
    obtain ⟨f, rfl⟩ : ∃ g, f = g + 1 := ⟨f - 1, by omega⟩
    have hGl : (G.flatMap F.cells).length = 80 * n := by rw [flatMap_len F.cells 5 (fun _ => rfl), hG.1]; omega
    by_cases hkl : k < S.2.length
    · obtain ⟨q, hqk⟩ : ∃ q, S.2[k]? = some q := ⟨_, List.getElem?_eq_getElem hkl⟩
      have hqo := hS.lt q (List.mem_of_getElem? hqk)
      simp only [cGo, hqk] at hw
      have hr0 : (S.2.flatMap plC)[k * 2]? = some (N q.1) := by have := flatMap_get (f := plC) (k := 2) (fun _ => rfl) hqk (j := 0) (by omega); rw [Nat.add_zero] at this; exact this
      have hr1 : (S.2.flatMap plC)[k * 2 + 1]? = some (N q.2) := flatMap_get (f := plC) (k := 2) (fun _ => rfl) hqk (j := 1) (by omega)
      have hfl : (S.2.flatMap plC).length = S.2.length * 2 := flatMap_len _ 2 (fun _ => rfl) _
      have hq1 : (q.1 : Int) < 4 * (n : Int) := by omega
      have hq20 : q.1 * 20 + 20 ≤ 80 * n := by omega
      simp [c27_l1, K, e5, e9, e13, e14, hkl, hrow, hr0, hr1, hfl, hq1, hqo.1, hGl, hq20, hqk, -getElem?_pos]
      refine c27_l0_wp (u := q.1) (v := q.2) (e0 := eset e0 14 (N k)) hG hn hqo.1 hqo.2 hC hS ?_ ?_ ?_ ?_ ?_ ?_ ?_ (g0 := g0) (jl := jl)
      · intro i hi
        by_cases h14 : i = 14
        · subst h14; simp [e14]
        · have hne : ∀ t ∈ [60, 61, 62, 63, 66, 67, 68, 69, 70, 71, 72, 73, 74, 75, 15, 16, 76, 77, 78, 79, 80, 81], ¬ i = t := by
            intro t ht; simp at hi ht; omega
          have hik : i ∈ k27b := by simp at hi ⊢; omega
          rw [eget_ne _ _ _ _ h14, ← K i hik]
          simp at hne
          simp [hne]
      · simp [e9]
      · simp
      · simp
      · simp
      · simpa using hq'
      · intro e' g' K' f9 hq2
        have K2 : KeepT k27b e0 e' := by
          intro i hi
          have h14 : ¬ i = 14 := by simp at hi; omega
          have := K' i (by simp at hi ⊢; omega)
          rw [eget_ne _ _ _ _ h14] at this
          exact this
        have f14 : eget e' 14 = N k := by have := K' 14 (by simp); simpa using this
        have hps := cFold_cs hG hS (u := q.1) (v := q.2) 4
        have hlen : k + 1 ≤ (cFold G q.1 q.2 S 4).2.length := lt_get (cFold_get hqk 4)
        have hw2 : IntKind.i64.wrap ((k : Int) + 1) = ((k + 1 : Nat) : Int) := by rw [wrap64 (by omega) (by omega)]; rfl
        simp [K2, f9, f14, hw2, hqk, -getElem?_pos]
        exact ⟨hps, hlen, by omega, hw, hq2⟩
    · have hnone : S.2[k]? = none := List.getElem?_eq_none (by omega)
      simp only [cGo, hnone] at hw
      have hkl' : ¬ ((k : Int) < S.2.length) := by omega
      simp [c27_l1, K, e5, e9, e13, e14, hkl', hkl]
      rw [hw]
      refine hQ _ _ ?_ ?_ hU
      · simp [K]
      · simp [e9]
  · exact ⟨K, e9, e14, rfl, hs, Nat.zero_le _, by simpa using hf, hR, g, e13, rfl⟩

end Go.Proofs.Ytocoadpepofbbaa.AM

/-
  THE PACKAGE outside, part 10: Cusps.
-/
set_option linter.unusedVariables false
set_option linter.unusedSimpArgs false
set_option maxRecDepth 10000
namespace Go.Proofs.Ytocoadpepofbbaa.AM
open Go

/-- The component of a class of vertices. -/
def cVal (xs : List X) (of : List Int) (t i : Nat) : Int :=
  if i = 0 then (of[(arcAt xs (t / 4, 1)).toNat]?).getD 0 else if i = 1 then (of[(arcAt xs (t / 4, 0)).toNat]?).getD 0 else 1 - (i : Int)
def cuspP (xs : List X) (of : List Int) (G : List F) (t : Nat) (s : List Bool × List Int) (i : Nat) : List Bool × List Int :=
  match s.1[4 * t + i]? with
  | some false => (cGo G (16 * xs.length + 2) (s.1.set (4 * t + i) true, [(t, i)]) 0, s.2 ++ [cVal xs of t i])
  | _ => s
def cuspPs (xs : List X) (of : List Int) (G : List F) (t : Nat) (s : List Bool × List Int) (k : Nat) : List Bool × List Int := (List.range k).foldl (cuspP xs of G t) s
def cuspX (xs : List X) (of : List Int) (G : List F) (k : Nat) : List Bool × List Int := (List.range k).foldl (fun s t => cuspPs xs of G t s 4) (List.replicate (16 * xs.length) false, [])
theorem cuspPs_succ (xs : List X) (of : List Int) (G : List F) (t : Nat) (s : List Bool × List Int) (k : Nat) : cuspPs xs of G t s (k + 1) = cuspP xs of G t (cuspPs xs of G t s k) k := by simp [cuspPs, List.range_succ]
theorem cuspX_succ (xs : List X) (of : List Int) (G : List F) (k : Nat) : cuspX xs of G (k + 1) = cuspPs xs of G k (cuspX xs of G k) 4 := by simp [cuspX, List.range_succ]

theorem cGo_len {G : List F} : ∀ (f : Nat) (s : List Bool × List Pl) (k : Nat), (cGo G f s k).length = s.1.length
  | 0, _, _ => rfl
  | f + 1, s, k => by
    have h1 : ∀ u v s f, (cStep G u v s f).1.length = s.1.length := by
      intro u v s f
      unfold cStep
      split
      · rfl
      · split
        · rfl
        · split <;> simp
    have h2 : ∀ u v s j, (cFold G u v s j).1.length = s.1.length := by
      intro u v s j
      induction j with
      | zero => rfl
      | succ j ih => rw [cFold_succ, h1, ih]
    simp only [cGo]
    split
    · rfl
    · rw [cGo_len f, h2]
/-- The state of the loop over all corners. -/
structure US (n : Nat) (s : List Bool × List Int) (k : Nat) : Prop where
  len : s.1.length = 16 * n
  out : s.2.length ≤ k
theorem cuspP_us {xs : List X} {of : List Int} {G : List F} {t i k : Nat} {s : List Bool × List Int} (H : US xs.length s k) : US xs.length (cuspP xs of G t s i) (k + 1) := by
  unfold cuspP
  split
  · exact ⟨by rw [cGo_len]; simpa using H.len, by have := H.out; simp; omega⟩
  · exact ⟨H.len, by have := H.out; omega⟩
theorem cuspPs_us {xs : List X} {of : List Int} {G : List F} {t k : Nat} {s : List Bool × List Int} (H : US xs.length s k) : ∀ j, US xs.length (cuspPs xs of G t s j) (k + j)
  | 0 => H
  | j + 1 => by rw [cuspPs_succ]; exact cuspP_us (cuspPs_us H j)
theorem cuspX_us {xs : List X} {of : List Int} {G : List F} : ∀ j, US xs.length (cuspX xs of G j) (4 * j)
  | 0 => ⟨by simp [cuspX], by simp [cuspX]⟩
  | j + 1 => by rw [cuspX_succ]; exact cuspPs_us (cuspX_us j) 4

/-- The list that is returned, and its block among the newer ones. -/
def OI (h : List ABlk) (out : List Int) (v10 : AV) (g : List ABlk) : Prop :=
  (out = [] ∧ v10 = nilSl) ∨ (out ≠ [] ∧ ∃ jo, v10 = .sl (some ⟨h.length + (jo + 1 + 1 + 1 + 1 + 1 + 1 + 1), out.length, 0⟩) out.length (.u 1) ∧ g[jo]? = some (.row false (out.map I)))
theorem OI.upd {h : List ABlk} {out : List Int} {v : AV} {g g' : List ABlk} {W : List Nat} (H : OI h out v g) (U : Upd g g' W) (hw : ∀ j ∈ W, g.length ≤ j) : OI h out v g' := by
  rcases H with h1 | ⟨h1, jo, h2, h3⟩
  · exact .inl h1
  · exact .inr ⟨h1, jo, h2, U.get h3 (fun hm => by have := hw _ hm; have := hlt h3; omega)⟩

abbrev k27c : List Nat := [1, 5, 6, 9, 11, 38, 39]

/-- One number more is appended. -/
theorem OI.app {h : List ABlk} {out : List Int} {v : AV} {g : List ABlk} (x : Int) (H : OI h out v g) : True := trivial

theorem c27_l2_wp {Q : ExK} {h : List ABlk} {B1 B3 : ABlk} {xs : List X} {ad : Option Ad} {c : Cap} {loops : Int} {of : List Int} {G : List F} {cp : Cap} (hA : SlAt h ad xs.length 5 (xs.flatMap X.cells)) (hG : AllOk xs.length G) (hn : xs.length ≤ 200) (S : Snd xs) (hof : of.length = 2 * xs.length)
    {t : Nat} (ht : t < 4 * xs.length) {s : List Bool × List Int} (hs : US xs.length s (4 * t)) {g : List ABlk} {e0 e : List AV}
    (h1 : eget e0 1 = .ptr (some ⟨h.length, 2, 0⟩)) (h5 : eget e0 5 = .ptr (some ⟨h.length + 4, 1, 0⟩)) (h6 : eget e0 6 = .sl (some ⟨h.length + 5, 2 * xs.length, 0⟩) (2 * xs.length) (.k (2 * xs.length))) (h9 : eget e0 9 = ML h xs.length) (h11 : eget e0 11 = N t)
    (K : KeepT k27c e0 e) (e42 : eget e 42 = I 0) (e10 : OI h s.2 (eget e 10) g)
    (hQ : ∀ e' g', KeepT k27c e0 e' → OI h (cuspPs xs of G t s 4).2 (eget e' 10) g' → Q .normal e' (h ++ .row false [.sl ad xs.length c, I loops] :: B1 :: .row false (G.flatMap F.cells) :: B3 :: .row false [.sl (some ⟨h.length + 2, 80 * xs.length, 0⟩) (4 * xs.length) cp] :: .row false (of.map I) :: .row false ((cuspPs xs of G t s 4).1.map Bo) :: g') (M0 h)) :
    wp PR h.length false (.loop c27_l2) e (h ++ .row false [.sl ad xs.length c, I loops] :: B1 :: .row false (G.flatMap F.cells) :: B3 :: .row false [.sl (some ⟨h.length + 2, 80 * xs.length, 0⟩) (4 * xs.length) cp] :: .row false (of.map I) :: .row false (s.1.map Bo) :: g) (M0 h) (onBlk 2 Q) := by
  refine wp_range (n := 4) (fun i e H m => KeepT k27c e0 e ∧ m = M0 h ∧ ∃ g, OI h (cuspPs xs of G t s i).2 (eget e 10) g ∧ H = h ++ .row false [.sl ad xs.length c, I loops] :: B1 :: .row false (G.flatMap F.cells) :: B3 :: .row false [.sl (some ⟨h.length + 2, 80 * xs.length, 0⟩) (4 * xs.length) cp] :: .row false (of.map I) :: .row false ((cuspPs xs of G t s i).1.map Bo) :: g) (by omega) (by simp) ?_ ?_ ?_ e42 ?_ ?_
  · rintro i e h m t v (rfl | rfl | rfl) hJ <;> simpa using hJ
  · rintro i e h m _; rfl
  · exact ⟨K, rfl, g, e10, rfl⟩
  · rintro i e _ _ hi ⟨K, rfl, g, ho, rfl⟩ e42
    have hus := cuspPs_us (of := of) (G := G) (t := t) hs i
    have hsucc := cuspPs_succ xs of G t s i
    obtain ⟨T, hT⟩ : ∃ T, T = cuspPs xs of G t s i := ⟨_, rfl⟩
    rw [← hT] at hus hsucc ho ⊢
    have e1 : eget e 1 = .ptr (some ⟨h.length, 2, 0⟩) := by rw [K 1 (by simp)]; exact h1
    have e6 : eget e 6 = .sl (some ⟨h.length + 5, 2 * xs.length, 0⟩) (2 * xs.length) (.k (2 * xs.length)) := by rw [K 6 (by simp)]; exact h6
    have e9 : eget e 9 = ML h xs.length := by rw [K 9 (by simp)]; exact h9
    have e11 : eget e 11 = N t := by rw [K 11 (by simp)]; exact h11
    have hTl := hus.len
    have hTo := hus.out
    have ht' : (t : Int) < 4 * (xs.length : Int) := by omega
    have hi4 : (i : Int) < 4 := by omega
    have h44 : 4 * xs.length * 4 = 16 * xs.length := by omega
    obtain ⟨bm, hbm⟩ : ∃ bm, T.1[t * 4 + i]? = some bm := ⟨_, List.getElem?_eq_getElem (by omega)⟩
    have hbm' : T.1[4 * t + i]? = some bm := by rw [Nat.mul_comm]; exact hbm
    cases bm with
    | true =>
      have hst : cuspP xs of G t T i = T := by simp only [cuspP, hbm']
      simp [K, e9, e11, e42, ht, ht', hi4, hTl, h44, hbm, hsucc, hst, ho, -getElem?_pos]
    | false =>
      have hst : cuspP xs of G t T i = (cGo G (16 * xs.length + 2) (T.1.set (4 * t + i) true, [(t, i)]) 0, T.2 ++ [cVal xs of t i]) := by simp only [cuspP, hbm']
      have hbd : t * 4 + i + 1 ≤ 16 * xs.length := by omega
      simp [K, e9, e11, e42, ht, ht', hi4, hTl, h44, hbm, hbd, -getElem?_pos]
      have hcs : CS xs.length (16 * xs.length + 1) (T.1.set (4 * t + i) true, [(t, i)]) := by
        refine ⟨by simpa using hTl, by simp; omega, ?_⟩
        have := nfal_set hbm'
        have hle : nfal T.1 ≤ T.1.length := List.countP_le_length
        dsimp only [List.length_cons, List.length_nil]
        omega
      have hrw : (List.map Bo T.1).set (t * 4 + i) (.bool true) = (T.1.set (4 * t + i) true).map Bo := by rw [List.map_set, Nat.mul_comm t]
      rw [hrw]
      have e5 : eget e 5 = .ptr (some ⟨h.length + 4, 1, 0⟩) := by rw [K 5 (by simp)]; exact h5
      refine c27_l1_wp (s := (T.1.set (4 * t + i) true, [(t, i)])) (f := 16 * xs.length + 2) (g0 := g ++ [.row false (plC (t, i))]) (jl := g.length) hG hn (by omega) hcs (by omega) ?_ (KeepT.refl _ _) ?_ ?_ ?_ ?_
      · simp [e5]
      · simp [e9]
      · simp
      · refine ⟨⟨.k 1, .inr rfl, by simp⟩, by simp [plC], Upd.refl _ _⟩
      · intro e' g' K' f9 U
        have ho' : OI h T.2 (eget e 10) g' := by
          rcases ho with k1 | ⟨k1, jo, k2, k3⟩
          · exact .inl k1
          · exact .inr ⟨k1, jo, k2, U.get (hget_some k3) (by have := hlt k3; simp; omega)⟩
        have f1 : eget e' 1 = .ptr (some ⟨h.length, 2, 0⟩) := by have := K' 1 (by simp); simpa [e1] using this
        have f6 : eget e' 6 = .sl (some ⟨h.length + 5, 2 * xs.length, 0⟩) (2 * xs.length) (.k (2 * xs.length)) := by have := K' 6 (by simp); simpa [e6] using this
        have f10 : eget e' 10 = eget e 10 := by have := K' 10 (by simp); simpa using this
        have f11 : eget e' 11 = N t := by have := K' 11 (by simp); simpa [e11] using this
        have f12 : eget e' 12 = N i := by have := K' 12 (by simp); simpa using this
        have f42 : eget e' 42 = N i := by have := K' 42 (by simp); simpa [e42] using this
        have f5 : eget e' 5 = eget e 5 := by have := K' 5 (by simp); simpa using this
        have f38 : eget e' 38 = eget e 38 := by have := K' 38 (by simp); simpa using this
        have f39 : eget e' 39 = eget e 39 := by have := K' 39 (by simp); simpa using this
        have K2 : KeepT k27c e0 e' := by
          intro j hj
          simp at hj
          rcases hj with rfl | rfl | rfl | rfl | rfl | rfl | rfl
          · rw [f1, h1]
          · rw [f5]; exact K 5 (by simp)
          · rw [f6, h6]
          · rw [f9, h9]
          · rw [f11, h11]
          · rw [f38]; exact K 38 (by simp)
          · rw [f39]; exact K 39 (by simp)
        have hby : (T.2.length + 1) * 8 ≤ 140737488355328 := by omega
        obtain ⟨q, hq⟩ : ∃ q, q = t / 4 := ⟨_, rfl⟩
        have hq1 : q < xs.length := by omega
        have htd : ((t : Int)).tdiv 4 = q := by rw [hq]; rfl
        have hwq : IntKind.i64.wrap (q : Int) = q := wrap64 (by omega) (by omega)
        obtain ⟨b, ro, rfl, hb', hb, lb⟩ := hA.get hq1
        obtain ⟨x, hx⟩ : ∃ x, xs[q]? = some x := ⟨_, List.getElem?_eq_getElem hq1⟩
        obtain ⟨n0, hn0, hlt0⟩ := S.arc (q := (q, 0)) (mem_places.mpr ⟨hq1, by simp⟩)
        obtain ⟨n1, hn1, hlt1⟩ := S.arc (q := (q, 1)) (mem_places.mpr ⟨hq1, by simp⟩)
        have hx0 : x.a0 = n0 := by rw [← hn0]; simp [arcAt, hx, X.arc]
        have hx1 : x.a1 = n1 := by rw [← hn1]; simp [arcAt, hx, X.arc]
        have hc0 : (xs.flatMap X.cells)[q * 5]? = some (N n0) := by have := flatMap_get (f := X.cells) (k := 5) (fun _ => rfl) hx (j := 0) (by omega); rw [Nat.add_zero] at this; rw [this]; show some (I x.a0) = _; rw [hx0]
        have hc1 : (xs.flatMap X.cells)[q * 5 + 1]? = some (N n1) := by rw [flatMap_get (f := X.cells) (k := 5) (fun _ => rfl) hx (j := 1) (by omega)]; show some (I x.a1) = _; rw [hx1]
        obtain ⟨y0, hy0⟩ : ∃ y, of[n0]? = some y := ⟨_, List.getElem?_eq_getElem (by omega)⟩
        obtain ⟨y1, hy1⟩ : ∃ y, of[n1]? = some y := ⟨_, List.getElem?_eq_getElem (by omega)⟩
        have hlt0' : (n0 : Int) < 2 * (xs.length : Int) := by omega
        have hlt1' : (n1 : Int) < 2 * (xs.length : Int) := by omega
        have hv : cVal xs of t i = if i = 0 then y1 else if i = 1 then y0 else 1 - (i : Int) := by
          simp only [cVal, ← hq, hn0, hn1]
          simp [hy0, hy1, -getElem?_pos]
        have hnew : ∀ (y : Int) (g'' : List ABlk), OI h [y] (.sl (some ⟨h.length + (g'.length + 1 + 1 + 1 + 1 + 1 + 1 + 1 + 1), 1, 0⟩) 1 (.u 1)) (g' ++ .row false [I y] :: .row false [I y] :: g'') := fun y g'' =>
          .inr ⟨by simp, g'.length + 1, by rfl, by rw [hget_new]; rfl⟩
        have hgrow : ∀ (y : Int) (jo : Nat) (g'' : List ABlk), jo < g'.length → T.2 ≠ [] → OI h (T.2 ++ [y]) (.sl (some ⟨h.length + (jo + 1 + 1 + 1 + 1 + 1 + 1 + 1), T.2.length + 1, 0⟩) (T.2.length + 1) (.u 1)) (g'.set jo (.row false (T.2.map I ++ [I y])) ++ g'') := fun y jo g'' hjo hne =>
          .inr ⟨by simp, jo, by simp, by rw [hget_old (by simpa using hjo), List.getElem?_set_self hjo]; simp⟩
        by_cases i0 : i = 0
        · subst i0
          rcases ho' with ⟨k1, k2⟩ | ⟨k1, jo, k2, k3⟩
          · simp [K2, f1, f6, f10, f11, f12, f42, k2, nilSl, htd, hwq, hq1, hb', hb, lb, hc1, hof, hlt1, hlt1', hy1, k1, hsucc, hst, hv, -getElem?_pos]
            exact hnew _ _
          · have hjo := hlt k3
            simp [K2, f1, f6, f10, f11, f12, f42, k2, k3, hjo, hget_old, hset_old, htd, hwq, hq1, hb', hb, lb, hc1, hof, hlt1, hlt1', hy1, hby, hsucc, hst, hv, -getElem?_pos]
            exact hgrow _ _ _ hjo k1
        · have i0' : ((i : Int) == 0) = false := by simp; omega
          by_cases i1 : i = 1
          · subst i1
            rcases ho' with ⟨k1, k2⟩ | ⟨k1, jo, k2, k3⟩
            · simp [K2, f1, f6, f10, f11, f12, f42, k2, nilSl, htd, hwq, hq1, hb', hb, lb, hc0, hof, hlt0, hlt0', hy0, k1, hsucc, hst, hv, -getElem?_pos]
              exact hnew _ _
            · have hjo := hlt k3
              simp [K2, f1, f6, f10, f11, f12, f42, k2, k3, hjo, hget_old, hset_old, htd, hwq, hq1, hb', hb, lb, hc0, hof, hlt0, hlt0', hy0, hby, hsucc, hst, hv, -getElem?_pos]
              exact hgrow _ _ _ hjo k1
          · have i1' : ((i : Int) == 1) = false := by simp; omega
            have hwi : IntKind.i64.wrap (1 - (i : Int)) = 1 - i := wrap64 (by omega) (by omega)
            rcases ho' with ⟨k1, k2⟩ | ⟨k1, jo, k2, k3⟩
            · simp [K2, f1, f6, f10, f11, f12, f42, k2, nilSl, k1, i0, i1, i0', i1', hwi, hsucc, hst, hv, -getElem?_pos]
              exact hnew _ _
            · have hjo := hlt k3
              simp [K2, f1, f6, f10, f11, f12, f42, k2, k3, hjo, hget_old, hset_old, hby, i0, i1, i0', i1', hwi, hsucc, hst, hv, -getElem?_pos]
              exact hgrow _ _ _ hjo k1
  · rintro e _ m ⟨K, rfl, g, ho, rfl⟩
    exact hQ _ _ K ho

end Go.Proofs.Ytocoadpepofbbaa.AM

/-
  THE PACKAGE outside, part 11: Cusps, the whole.
-/
set_option linter.unusedVariables false
set_option linter.unusedSimpArgs false
set_option maxRecDepth 10000
namespace Go.Proofs.Ytocoadpepofbbaa.AM
open Go

theorem c27_l3_wp {Q : ExK} {h : List ABlk} {B1 B3 : ABlk} {xs : List X} {ad : Option Ad} {c : Cap} {loops : Int} {of : List Int} {G : List F} {cp : Cap} (hA : SlAt h ad xs.length 5 (xs.flatMap X.cells)) (hG : AllOk xs.length G) (hn : xs.length ≤ 200) (S : Snd xs) (hof : of.length = 2 * xs.length)
    {e : List AV}
    (h1 : eget e 1 = .ptr (some ⟨h.length, 2, 0⟩)) (h5 : eget e 5 = .ptr (some ⟨h.length + 4, 1, 0⟩)) (h6 : eget e 6 = .sl (some ⟨h.length + 5, 2 * xs.length, 0⟩) (2 * xs.length) (.k (2 * xs.length))) (h9 : eget e 9 = ML h xs.length)
    (e38 : eget e 38 = I (4 * xs.length : Nat)) (e39 : eget e 39 = I 0) (e10 : eget e 10 = nilSl)
    (hQ : ∀ e' g', OI h (cuspX xs of G (4 * xs.length)).2 (eget e' 10) g' → Q .normal e' (h ++ .row false [.sl ad xs.length c, I loops] :: B1 :: .row false (G.flatMap F.cells) :: B3 :: .row false [.sl (some ⟨h.length + 2, 80 * xs.length, 0⟩) (4 * xs.length) cp] :: .row false (of.map I) :: .row false ((cuspX xs of G (4 * xs.length)).1.map Bo) :: g') (M0 h)) :
    wp PR h.length false (.loop c27_l3) e (h ++ .row false [.sl ad xs.length c, I loops] :: B1 :: .row false (G.flatMap F.cells) :: B3 :: .row false [.sl (some ⟨h.length + 2, 80 * xs.length, 0⟩) (4 * xs.length) cp] :: .row false (of.map I) :: [.row false (List.replicate (16 * xs.length) (Bo false))]) (M0 h) (onBlk 0 Q) := by
  refine wp_range (n := 4 * xs.length) (fun t e' H m => KeepT [1, 5, 6, 9] e e' ∧ eget e' 38 = I (4 * xs.length : Nat) ∧ m = M0 h ∧ ∃ g, OI h (cuspX xs of G t).2 (eget e' 10) g ∧ H = h ++ .row false [.sl ad xs.length c, I loops] :: B1 :: .row false (G.flatMap F.cells) :: B3 :: .row false [.sl (some ⟨h.length + 2, 80 * xs.length, 0⟩) (4 * xs.length) cp] :: .row false (of.map I) :: .row false ((cuspX xs of G t).1.map Bo) :: g) (by omega) (by simp) ?_ ?_ ?_ e39 ?_ ?_
  · rintro i e h m t v (rfl | rfl | rfl) hJ <;> simpa using hJ
  · rintro i e h m ⟨_, e38, _⟩; exact e38
  · exact ⟨KeepT.refl _ _, e38, rfl, [], .inl ⟨rfl, e10⟩, by simp [cuspX]⟩
  · rintro t e' _ _ ht ⟨K, f38, rfl, g, ho, rfl⟩ f39
    have hus := cuspX_us (xs := xs) (of := of) (G := G) t
    have f1 : eget e' 1 = .ptr (some ⟨h.length, 2, 0⟩) := by rw [K 1 (by simp)]; exact h1
    have f5 : eget e' 5 = .ptr (some ⟨h.length + 4, 1, 0⟩) := by rw [K 5 (by simp)]; exact h5
    have f6 : eget e' 6 = .sl (some ⟨h.length + 5, 2 * xs.length, 0⟩) (2 * xs.length) (.k (2 * xs.length)) := by rw [K 6 (by simp)]; exact h6
    have f9 : eget e' 9 = ML h xs.length := by rw [K 9 (by simp)]; exact h9
    simp [f39]
    refine c27_l2_wp (t := t) (s := cuspX xs of G t) hA hG hn S hof ht hus ?_ ?_ ?_ ?_ ?_ (KeepT.refl _ _) ?_ ?_ ?_
    · simp [f1]
    · simp [f5]
    · simp [f6]
    · simp [f9]
    · simp
    · simp
    · simpa using ho
    · intro e'' g' K' ho'
      have k1 : eget e'' 1 = eget e' 1 := by have := K' 1 (by simp); simpa using this
      have k5 : eget e'' 5 = eget e' 5 := by have := K' 5 (by simp); simpa using this
      have k6 : eget e'' 6 = eget e' 6 := by have := K' 6 (by simp); simpa using this
      have k9 : eget e'' 9 = eget e' 9 := by have := K' 9 (by simp); simpa using this
      have k38 : eget e'' 38 = eget e' 38 := by have := K' 38 (by simp); simpa using this
      have k39 : eget e'' 39 = eget e' 39 := by have := K' 39 (by simp); simpa using this
      have K2 : KeepT [1, 5, 6, 9] e e'' := by
        intro j hj
        simp at hj
        rcases hj with rfl | rfl | rfl | rfl
        · rw [k1]; exact K 1 (by simp)
        · rw [k5]; exact K 5 (by simp)
        · rw [k6]; exact K 6 (by simp)
        · rw [k9]; exact K 9 (by simp)
      simp only [onBlk_normal, rgQ_normal]
      exact ⟨⟨K2, by rw [k38]; exact f38, by trivial, g', by rw [cuspX_succ]; exact ho', by rw [cuspX_succ]⟩, by rw [k39]; exact f39⟩
  · rintro e' _ m ⟨K, f38, rfl, g, ho, rfl⟩
    exact hQ _ _ ho

theorem flat4 (x : AV) : ∀ m : Nat, (List.replicate m [x, x, x, x]).flatten = List.replicate (m * 4) x
  | 0 => rfl
  | m + 1 => by
    rw [List.replicate_succ, List.flatten_cons, flat4 x m, show (m + 1) * 4 = 4 + m * 4 by omega, ← List.replicate_append_replicate]
    rfl

def cuspsS (xs : List X) : List Int := (cuspX xs (compsS xs).1 (outG xs) (4 * xs.length)).2
def ilVal (n : Nat) (l : List Int) : AV := if l = [] then nilSl else .sl (some ⟨n, l.length, 0⟩) l.length (.u 1)
def ilBlks (l : List Int) : List ABlk := if l = [] then [] else [.row false (l.map I)]

theorem Cusps_c {h : List ABlk} {v : AV} {xs : List X} {loops : Int} (H : DiaIn h v xs loops) : Ends PR (.f 27) [v] h
    (if askedS xs loops = 0 then ⟨.tup [ilVal h.length (cuspsS xs), I 0], h ++ ilBlks (cuspsS xs), [], none⟩ else ⟨.tup [nilSl, I (askedS xs loops)], h, [], none⟩) := by
  have hask := fun l => asked_c (H.ext (l := l))
  have hcom := fun l => Components_c (H.ext (l := l))
  obtain ⟨a, c, rfl, hA, ha⟩ := H
  refine ends_of p27 (by simp [c27]) ?_
  by_cases h0 : askedS xs loops = 0
  · obtain ⟨k1, k2, k3, k4⟩ := asked_zero h0
    obtain ⟨g0, g1, g2, g3, S⟩ := enterS_zero k1
    simp only [if_pos k1] at hcom
    have hlt' : ∀ l : List ABlk, ∀ p, a = some p → p.b < (h ++ l).length := fun l p hp => by have := ha p hp; simp; omega
    have hbo := fun l => builderOf_c (c := c) (loops := loops) (hlt' l) g1 k3
    obtain ⟨w, hw, hgl⟩ := glued_c (h := h ++ [.row false [.sl a xs.length c, I loops]]) (c := c) (loops := loops) hA.ext (hlt' _) g1 S
    have hmu : ∀ n, mup h.length ⟨h.length, [], none⟩ w none n = ⟨h.length, [], none⟩ := fun n => mup_ge (by simp) (fun b hb => by rw [hw b hb]; simp; omega) (by simp)
    have hbd : ∀ h : List ABlk, bldBlocks h a c xs loops = [.row false [.sl (some ⟨h.length + 1, 80 * xs.length, 0⟩) (4 * xs.length) (.u 20), .sl a xs.length c, I loops, .map (some (h.length + 2))], .row false (List.replicate (80 * xs.length) (I 0)), .map true kIA (crnE (crn xs.length))] := fun h => rfl
    simp only [hbd, List.append_assoc, List.cons_append, List.nil_append, List.length_append, List.length_cons, List.length_nil] at hgl
    obtain ⟨hok, hF⟩ := S.outG
    have w1 : IntKind.i64.wrap (4 * (xs.length : Int)) = 4 * xs.length := wrap64 (by omega) (by omega)
    have w2 : (4 : Int) * (4 * xs.length) ≤ 281474976710656 := by omega
    have w3 : (4 * (xs.length : Int)).toNat = 4 * xs.length := by omega
    have w4 : (0 : Int) ≤ 4 * xs.length := by omega
    simp [c27, ends_eq (hask _), h0, ends_eq (hbo _), hbd, ends_eq hgl, hmu, ends_eq (hcom _), w1, w2, w3, w4]
    have h44 : 4 * xs.length * 4 = 16 * xs.length := by omega
    rw [flat4, hF, h44]
    refine c27_l3_wp (c := c) (loops := loops) (cp := .u 20) hA hok g1 S (comps_len _ _ _) ?_ ?_ ?_ ?_ ?_ ?_ ?_ ?_
    · simp
    · simp
    · simp
    · simp [h44]
    · simp
    · simp
    · simp [nilSl]
    · intro e g ho
      have ho : OI h (cuspsS xs) (eget e 10) g := ho
      rcases ho with ⟨q1, q2⟩ | ⟨q1, jo, q2, q3⟩
      · simp [q2, ilVal, ilBlks, q1, nilSl, gc_none]
      · simp [q2, ilVal, ilBlks, q1]
        refine gc_row (j := jo + 1 + 1 + 1 + 1 + 1 + 1 + 1) (ro := false) ?_ ?_ refsL_ints ?_
        · simp
        · simpa using q3
        · simp
  · simp [c27, ends_eq (hask _), h0, gc_none, nilSl]

end Go.Proofs.Ytocoadpepofbbaa.AM

/-
  THE LAW OutsideStays on the abstract machine: what it calls beside the package.
-/
set_option linter.unusedVariables false
set_option linter.unusedSimpArgs false
set_option maxRecDepth 10000
namespace Go.Proofs.Ytocoadpepofbbaa.AM
open Go

theorem few_c (h : List ABlk) (a : Option Ad) (c : Cap) (n : Nat) (loops : Int) : Ends PR (.f 20) [.agg [.sl a n c, I loops]] h ⟨Bo (decide (n ≤ 8) || decide (200 < n)), h, [], none⟩ := by
  refine ends_of p20 (by simp [c20]) ?_
  by_cases h1 : n ≤ 8
  · have h1' : (n : Int) ≤ 8 := by omega
    simp [c20, h1, h1', gc_none]
  · have h1' : ¬ (n : Int) ≤ 8 := by omega
    by_cases h2 : 200 < n
    · have h2' : (200 : Int) < n := by omega
      simp [c20, h1, h1', h2, h2', gc_none]
    · have h2' : ¬ (200 : Int) < n := by omega
      simp [c20, h1, h1', h2, h2', gc_none]

theorem kink_c (h : List ABlk) : Ends PR (.f 94) [] h ⟨.agg [.sl (some ⟨h.length, 5, 0⟩) 1 (.k 1), I 0], h ++ [.row false (X.cells ⟨0, 0, 1, 1, 1⟩)], [], none⟩ := by
  refine ends_of p94 (by simp [c94]) ?_
  simp [c94]
  refine gc_row (j := 1) (ro := false) ?_ ?_ (X.cells_refs _) ?_ <;> simp [X.cells]

/-- The slice of a copy. -/
def copV (h : List ABlk) (n : Nat) : AV := if n = 0 then .sl (some ⟨h.length, 0, 0⟩) 0 (.k 0) else .sl (some ⟨h.length, n * 5, 0⟩) n (.u 5)
theorem cells_all {xs : List X} : (xs.flatMap X.cells).all AV.one = true := by
  rw [List.all_eq_true]
  intro v hv
  obtain ⟨x, _, hx⟩ := List.mem_flatMap.mp hv
  have := X.cells_one x
  rw [List.all_eq_true] at this
  exact this v hx
/-- A slice that came in: nil, or a whole block. -/
def SlIn (h : List ABlk) (a : Option Ad) (n size : Nat) (cs : List AV) : Prop := cs.length = n * size ∧ ((a = none ∧ n = 0) ∨ ∃ b ro, a = some ⟨b, n * size, 0⟩ ∧ h[b]? = some (.row ro cs))
theorem SlIn.at {h : List ABlk} {a : Option Ad} {n size : Nat} {cs : List AV} (H : SlIn h a n size cs) : SlAt h a n size cs := ⟨H.1, H.2.imp (fun h => h.2) id⟩
theorem SlIn.ext {h l : List ABlk} {a : Option Ad} {n size : Nat} {cs : List AV} (H : SlIn h a n size cs) : SlIn (h ++ l) a n size cs :=
  ⟨H.1, H.2.imp id fun ⟨b, ro, ha, hb⟩ => ⟨b, ro, ha, hget_some hb⟩⟩
theorem SlIn.lt {h : List ABlk} {a : Option Ad} {n size : Nat} {cs : List AV} (H : SlIn h a n size cs) : ∀ p, a = some p → p.b < h.length := by
  intro p hp
  rcases H.2 with ⟨h1, _⟩ | ⟨b, ro, h1, h2⟩
  · rw [h1] at hp; cases hp
  · rw [h1] at hp; cases hp; exact hlt h2
theorem copied_c {h : List ABlk} {a : Option Ad} {c : Cap} {xs : List X} {loops : Int} (hI : SlIn h a xs.length 5 (xs.flatMap X.cells)) (hsz : xs.length * 40 ≤ 140737488355328) :
    Ends PR (.f 47) [.agg [.sl a xs.length c, I loops]] h ⟨.agg [copV h xs.length, I loops], h ++ [.row false (xs.flatMap X.cells)], [], none⟩ := by
  have hA := hI.at
  have hl : (xs.flatMap X.cells).length = xs.length * 5 := flatMap_len _ 5 (fun _ => rfl) _
  have hr : refsL (xs.flatMap X.cells) = [] := refsL_flat (fun x => X.cells_refs x) _
  refine ends_of p47 (by simp [c47]) ?_
  by_cases hz : xs.length = 0
  · have hx : xs = [] := by simpa using hz
    subst hx
    rcases hI.2 with ⟨rfl, _⟩ | ⟨b, ro, rfl, hb⟩
    · simp [c47, chkFP, apartFP, copV]
      refine gc_row (j := 2) (ro := false) ?_ ?_ rfl ?_ <;> simp
    · have hbl := hlt hb
      have hnl : ¬ h.length ≤ b := by omega
      have hb' := fun l => hget_some (l := l) hb
      have hne : ¬ b = h.length + 2 := by omega
      simp [c47, chkFP, apartFP, copV, hb', hne]
      refine gc_row (j := 2) (ro := false) ?_ ?_ rfl ?_ <;> simp
  · obtain ⟨b, ro, rfl, hb', hb, lb⟩ := hA.get (i := 0) (by omega)
    have hne : ¬ b = h.length + 2 := by have := hlt hb; omega
    have htk : List.take (xs.length * 5) (xs.flatMap X.cells) = xs.flatMap X.cells := List.take_of_length_le (by omega)
    have hone := cells_all (xs := xs)
    simp [c47, hb', hb, lb, htk, hz, hsz, hone, chkFP, apartFP, copV]
    have hbl := hlt hb
    have hnl : ¬ h.length ≤ b := by omega
    refine gc_row (j := 2) (ro := false) ?_ ?_ hr ?_
    · simp
    · simp
    · simp

theorem aEq5 (x y : X) : aEqAgg [some .i64, some .i64, some .i64, some .i64, some .i64] true (.agg x.cells) (.agg y.cells) = some (.bool (!decide (x = y))) := by
  obtain ⟨x0, x1, x2, x3, xs⟩ := x
  obtain ⟨y0, y1, y2, y3, ys⟩ := y
  simp [aEqAgg, shapeL, shape1, codeL, code1, X.cells]
  rw [Bool.eq_iff_iff]; simp

theorem c48_l0_wp {Q : ExK} {h : List ABlk} {a b : Option Ad} {c d : Cap} {xs : List X} {l1 l2 : Int} {e : List AV} (hA : SlAt h a xs.length 5 (xs.flatMap X.cells)) (hB : SlAt h b xs.length 5 (xs.flatMap X.cells)) (hsz : xs.length ≤ 1000000000000000)
    (e2 : eget e 2 = .ptr (some ⟨h.length, 2, 0⟩)) (e3 : eget e 3 = .ptr (some ⟨h.length + 1, 2, 0⟩)) (e5 : eget e 5 = I 0)
    (hQ : ∀ e', Q .normal e' (h ++ [.row false [.sl a xs.length c, I l1], .row false [.sl b xs.length d, I l2]]) (M0 h)) :
    wp PR h.length false (.loop c48_l0) e (h ++ [.row false [.sl a xs.length c, I l1], .row false [.sl b xs.length d, I l2]]) (M0 h) (onBlk 0 Q) := by
  refine wp_loopN (fun i e H m => i ≤ xs.length ∧ eget e 2 = .ptr (some ⟨h.length, 2, 0⟩) ∧ eget e 3 = .ptr (some ⟨h.length + 1, 2, 0⟩) ∧ eget e 5 = N i ∧ m = M0 h ∧ H = h ++ [.row false [.sl a xs.length c, I l1], .row false [.sl b xs.length d, I l2]]) (fun i => xs.length - i) (· + 1) ?_ (a := 0) ⟨by omega, e2, e3, e5, rfl, rfl⟩
  rintro i e _ _ ⟨hi, e2, e3, e5, rfl, rfl⟩
  by_cases hlt : i < xs.length
  · obtain ⟨ba, ra, rfl, ha', ha, la⟩ := hA.get hlt
    obtain ⟨bb, rb, rfl, hb', hb, lb⟩ := hB.get hlt
    obtain ⟨x, hx⟩ : ∃ x, xs[i]? = some x := ⟨_, List.getElem?_eq_getElem hlt⟩
    have hT : List.take 5 (List.drop (i * 5) (xs.flatMap X.cells)) = x.cells := flatMap_at (k := 5) (fun _ => rfl) hx
    have h5 : i * 5 + 5 ≤ xs.length * 5 := by omega
    have hw : IntKind.i64.wrap ((i : Int) + 1) = ((i + 1 : Nat) : Int) := by rw [wrap64 (by omega) (by omega)]; rfl
    have hlt' : (i : Int) < xs.length := by omega
    simp [c48_l0, e2, e3, e5, hlt, ha', hb', la, lb, hT, h5, hw, aEq5]
    omega
  · have hlt' : ¬ ((i : Int) < xs.length) := by omega
    simp [c48_l0, e2, e3, e5, hlt]
    exact hQ _

theorem same_c {h : List ABlk} {a b : Option Ad} {c d : Cap} {xs : List X} {loops : Int} (hA : SlAt h a xs.length 5 (xs.flatMap X.cells)) (hB : SlAt h b xs.length 5 (xs.flatMap X.cells)) (hsz : xs.length ≤ 1000000000000000) :
    Ends PR (.f 48) [.agg [.sl a xs.length c, I loops], .agg [.sl b xs.length d, I loops]] h ⟨Bo true, h, [], none⟩ := by
  refine ends_of p48 (by simp [c48]) ?_
  simp [c48]
  refine c48_l0_wp hA hB hsz rfl rfl rfl ?_
  intro e
  simp [gc_none]

end Go.Proofs.Ytocoadpepofbbaa.AM

/-
  THE LAW OutsideStays on the abstract machine.
-/
set_option linter.unusedVariables false
set_option linter.unusedSimpArgs false
set_option maxRecDepth 10000
namespace Go.Proofs.Ytocoadpepofbbaa.AM
open Go

abbrev kinkX : X := ⟨0, 0, 1, 1, 1⟩
theorem kink_enter : enterS [kinkX] 0 = 0 := by rfl
theorem kink_mixed : mixedS [kinkX] 0 = true := by rfl
theorem kink_cusps : (cuspsS [kinkX]).length = 3 := by rfl
theorem circle_enter : enterS [] 1 = 0 := by rfl
theorem circle_mixed : mixedS [] 1 = false := by rfl

theorem sane29_c (h : List ABlk) : Ends PR (.f 19) [] h ⟨Bo true, h, [], none⟩ := by
  have ka : askedS [kinkX] 0 = 0 := by simp [askedS, kink_enter, kink_mixed]
  have ca : askedS [] 1 = 290 := by simp [askedS, circle_enter, circle_mixed]
  have hk := kink_c
  have hin : ∀ (l : List ABlk), DiaIn (h ++ .row false kinkX.cells :: l) (.agg [.sl (some ⟨h.length, 5, 0⟩) 1 (.k 1), I 0]) [kinkX] 0 := by
    intro l
    refine ⟨some ⟨h.length, 5, 0⟩, .k 1, rfl, ⟨rfl, .inr ⟨h.length, false, rfl, by rw [hget_new0]; rfl⟩⟩, fun p hp => ?_⟩
    cases hp; simp
  have hci : ∀ (H : List ABlk), DiaIn H (.agg [.sl none 0 (.k 0), I 1]) [] 1 := fun H => ⟨none, .k 0, rfl, ⟨rfl, .inl rfl⟩, fun p hp => by cases hp⟩
  have o1 := fun l => Outside_c (hin l)
  have o2 := fun l => Cusps_c (hin l)
  have o3 := fun l => Outside_c (hci (h ++ l))
  have o4 := fun l => Arc_c (arc := 0) (hin l)
  have o5 := fun l => Mixed_c (hin l)
  have o6 := fun l => Mixed_c (hci (h ++ l))
  have hcl : cuspsS [kinkX] ≠ [] := fun hc => by have := kink_cusps; rw [hc] at this; simp at this
  simp only [ka, if_true, ilVal, ilBlks, if_neg hcl, kink_cusps] at o2
  simp only [ka, if_true] at o1
  generalize hoF : outF [kinkX] = oF at o1
  generalize hcF : (cuspsS [kinkX]) = cF at o2
  simp only [ca] at o3
  have hno : ¬ ((0 : Int) < 0 ∨ 2 * (([kinkX].length : Nat) : Int) ≤ 0) := by simp
  simp only [ka, if_true, if_neg hno] at o4
  generalize hal : ((alongS [kinkX] (Int.toNat 0)).flatMap plC) = oA at o4
  simp [ka, kink_enter, kink_mixed] at o5
  simp [circle_enter, circle_mixed] at o6
  refine ends_of p19 (by simp [c19]) ?_
  simp [c19, nilSl, ends_eq (hk _), ends_eq (o1 _), ends_eq (o2 _), ends_eq (o3 _), ends_eq (o4 _), ends_eq (o5 _), ends_eq (o6 _), gc_none]

theorem copV_at (h : List ABlk) (xs : List X) (B : ABlk) : ∃ ad cp, copV (h ++ [B]) xs.length = .sl ad xs.length cp ∧ (∀ l, SlAt (h ++ B :: .row false (xs.flatMap X.cells) :: l) ad xs.length 5 (xs.flatMap X.cells)) ∧ ∀ p, ad = some p → p.b < h.length + 2 := by
  by_cases hz : xs.length = 0
  · have hx : xs = [] := by simpa using hz
    subst hx
    exact ⟨some ⟨h.length + 1, 0, 0⟩, .k 0, by simp [copV], fun l => ⟨rfl, .inl rfl⟩, fun p hp => by cases hp; simp⟩
  · refine ⟨some ⟨h.length + 1, xs.length * 5, 0⟩, .u 5, by simp [copV, hz], fun l => ⟨flatMap_len _ 5 (fun _ => rfl) _, .inr ⟨h.length + 1, false, rfl, ?_⟩⟩, fun p hp => by cases hp; simp⟩
    rw [List.getElem?_append_right (by omega)]
    simp
theorem law7_c {h : List ABlk} {a : Option Ad} {c : Cap} {xs : List X} {loops arc : Int} (hI : SlIn h a xs.length 5 (xs.flatMap X.cells)) (hsz : xs.length * 40 ≤ 140737488355328) :
    Ends PR (.f 7) [.agg [.sl a xs.length c, I loops], I arc] h ⟨Bo true, h, [], none⟩ := by
  have hsane := fun l => sane29_c (h ++ l)
  have hfew := fun l => few_c (h ++ l) a c xs.length loops
  have hcop := fun l => copied_c (c := c) (loops := loops) (hI.ext (l := l)) hsz
  refine ends_of p7 (by simp [c7]) ?_
  by_cases hf : xs.length ≤ 8 ∨ 200 < xs.length
  · have hb : (decide (xs.length ≤ 8) || decide (200 < xs.length)) = true := by simpa using hf
    obtain ⟨ad, cp, hv, hS, hp⟩ := copV_at h xs (.row false [.sl a xs.length c, I loops])
    have hin : ∀ l, DiaIn (h ++ .row false [.sl a xs.length c, I loops] :: .row false (xs.flatMap X.cells) :: l) (.agg [.sl ad xs.length cp, I loops]) xs loops :=
      fun l => ⟨ad, cp, rfl, hS l, fun p h' => by have := hp p h'; simp; omega⟩
    have hmi := fun l => Mixed_c (hin l)
    have hou := fun l => Outside_c (hin l)
    have hcu := fun l => Cusps_c (hin l)
    have har := fun l => Arc_c (arc := arc) (hin l)
    have hsa := fun l => same_c (c := cp) (d := c) (loops := loops) (hS l) (hI.at.ext (l := .row false [.sl a xs.length c, I loops] :: .row false (xs.flatMap X.cells) :: l)) (by omega)
    generalize hal : (alongS xs arc.toNat).flatMap plC = oA at har
    generalize hoF : outF xs = oF at hou
    generalize hcF : cuspsS xs = cF at hcu
    by_cases h0 : askedS xs loops = 0
    · simp only [h0, if_true] at hou hcu har
      by_cases h1 : arc < 0 ∨ 2 * (xs.length : Int) ≤ arc
      · simp only [h1, if_true] at har
        by_cases h2 : cF = []
        · subst h2
          simp [ilVal, ilBlks] at hcu
          simp [c7, ends_eq (hsane _), ends_eq (hfew _), ends_eq (hcop _), hb, hv, ends_eq (hmi _), ends_eq (hou _), ends_eq (hcu _), ends_eq (har _), ends_eq (hsa _), gc_none]
        · simp [ilVal, ilBlks, h2] at hcu
          simp [c7, ends_eq (hsane _), ends_eq (hfew _), ends_eq (hcop _), hb, hv, ends_eq (hmi _), ends_eq (hou _), ends_eq (hcu _), ends_eq (har _), ends_eq (hsa _), gc_none]
      · simp only [h1, if_false] at har
        by_cases h2 : cF = []
        · subst h2
          simp [ilVal, ilBlks] at hcu
          simp [c7, ends_eq (hsane _), ends_eq (hfew _), ends_eq (hcop _), hb, hv, ends_eq (hmi _), ends_eq (hou _), ends_eq (hcu _), ends_eq (har _), ends_eq (hsa _), gc_none]
        · simp [ilVal, ilBlks, h2] at hcu
          simp [c7, ends_eq (hsane _), ends_eq (hfew _), ends_eq (hcop _), hb, hv, ends_eq (hmi _), ends_eq (hou _), ends_eq (hcu _), ends_eq (har _), ends_eq (hsa _), gc_none]
    · simp only [h0, if_false] at hou hcu har
      simp [c7, ends_eq (hsane _), ends_eq (hfew _), ends_eq (hcop _), hb, hv, ends_eq (hmi _), ends_eq (hou _), ends_eq (hcu _), ends_eq (har _), ends_eq (hsa _), gc_none]
  · have hb : (decide (xs.length ≤ 8) || decide (200 < xs.length)) = false := by simpa using hf
    simp [c7, ends_eq (hsane _), ends_eq (hfew _), hb, gc_none]

end Go.Proofs.Ytocoadpepofbbaa.AM

/-
  THE CLOSED FACTS of a row put together.
-/
set_option linter.unusedVariables false
set_option linter.unusedSimpArgs false
set_option maxRecDepth 100000
namespace Go.Proofs.Ytocoadpepofbbaa.AM
open Go

/-- The light ones. -/
def joinedRest (P : Program) (fn : Func) (s : ChangeSpec) (c : OpenClaim) : Bool :=
  c.wf (OpenSpec.ofChange s) && fn.params.all (P.readableRec ·) && namedTie P c.named s.vars && (c.stops == []) && (P.stops == []) && (c.knobs == []) && (P.stopKnobs == []) &&
  (c.maps == (fn.params.toList ++ s.plain.varTypes P).any (P.mapsRec ·)) && (c.ifaces == (fn.params.toList ++ s.plain.varTypes P).any (P.ifacesRec ·)) && (c.mapsOut == P.mapsAmong fn.resultTypes.toList) &&
  (c.loops == (fn.params.toList ++ s.plain.varTypes P).any (P.loopsFrom ·)) && (c.wideKeys == (fn.params.toList ++ s.plain.varTypes P ++ fn.resultTypes.toList).any (P.wideKeysFrom ·)) &&
  s.vars.all (P.varReadable ·) && fn.resultTypes.all (fun t => P.readableRec t && decide (t < P.types.size)) && (c.ifacesOut == fn.resultTypes.toList.any (P.ifacesRec ·)) && (c.loopsOut == fn.resultTypes.toList.any (P.loopsFrom ·)) && (c.plainKeys == P.plainKeys) && c.shortTexts.isNone &&
  (c.kinds == (if c.domain.isEmpty then [] else fn.params.toList.map fun t => match P.underlying t with | some (.int k) => some k | _ => none)) && (c.pinned == c.pinnedBy) &&
  (c.veiled == (fn.params.toList ++ s.plain.varTypes P ++ fn.resultTypes.toList).any (P.veiledRec ·)) && c.veiledFits P fn.params.toList (fn.params.toList ++ s.plain.varTypes P ++ fn.resultTypes.toList)

theorem joined_of {P : Program} {f : FuncId} {fn : Func} {s : ChangeSpec} {c : OpenClaim} (hr : joinedRest P fn s c = true) (h1 : laidOutB P = true) (h2 : mapsRowed P = true) (h3 : (c.inPlace == P.inPlace f) = true) (h4 : (c.unfollowed == P.unfollowed f) = true)
    (h5 : (c.recurses == P.recurses f) = true) (h6 : (c.named == P.varsNamed f) = true) (h7 : P.stopsHeard = true) (h8 : P.mayEnter = true) {lf : Bool} (h9 : P.liftsFinal = lf) (h9' : (c.lifted == lf) = true) {mk : Make} (h10 : P.make = some mk) (h10' : (some mk == some c.make) = true) : joinedFacts P f fn s c = true := by
  simp only [joinedRest, Bool.and_eq_true] at hr
  obtain ⟨⟨⟨⟨⟨⟨⟨⟨⟨⟨⟨⟨⟨⟨⟨⟨⟨⟨⟨⟨⟨r1, r2⟩, r3⟩, r4⟩, r5⟩, r6⟩, r7⟩, r8⟩, r9⟩, r10⟩, r11⟩, r12⟩, r13⟩, r14⟩, r15⟩, r16⟩, r17⟩, r18⟩, r19⟩, r20⟩, r21⟩, r22⟩ := hr
  simp only [joinedFacts, r1, r2, r3, r4, r5, r6, r7, r8, r9, r10, r11, r12, r13, r14, r15, r16, r17, r18, r19, r20, r21, r22, h1, h2, h3, h4, h5, h6, h7, h8, h9, h9', h10, h10', Bool.and_true]
  rw [Bool.true_and]
  exact r19

end Go.Proofs.Ytocoadpepofbbaa.AM
