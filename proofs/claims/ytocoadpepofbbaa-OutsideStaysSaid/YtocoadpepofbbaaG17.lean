/-
  THE PACKAGE outside, part 1: its small functions, and which diagrams are mixed.
-/
import Derived.Test.YtocoadpepofbbaaG15
import Derived.Test.YtocoadpepofbbaaG16
set_option linter.unusedVariables false
set_option linter.unusedSimpArgs false
set_option maxRecDepth 10000
namespace Go.Proofs.Ytocoadpepofbbaa.AM
open Go

theorem wp_loop_n {base : Nat} {inR : Bool} {b : ACode} {e : List AV} {h : List ABlk} {m : Mt} {Q : ExK} (n : Nat) (hw : itW (wp PR base inR b) Q n e h m) : wp PR base inR (.loop b) e h m Q := ⟨n, hw⟩
theorem itW_succ {base : Nat} {inR : Bool} {b : ACode} {e : List AV} {h : List ABlk} {m : Mt} {Q : ExK} (n : Nat) : itW (wp PR base inR b) Q (n + 1) e h m = wp PR base inR b e h m (onSeq (itW (wp PR base inR b) Q n) Q) := (rfl)

/-! ### lists of bools -/
abbrev Bo (b : Bool) : AV := .bool b
/-- The first place of a bool. -/
def fIdx (x : Bool) : Nat → List Bool → Int
  | _, [] => -1
  | i, y :: l => if x == y then i else fIdx x (i + 1) l

theorem c252_l0_wp {Q : ExK} {h : List ABlk} {H : List ABlk} {b : Nat} {ro : Bool} {L : List Bool} {x : Bool} {c : Cap} (hl : L.length ≤ 1000000) (hb : h[b]? = some (.row ro (L.map Bo))) {e : List AV}
    (e0 : eget e 0 = .sl (some ⟨b, L.length, 0⟩) L.length c) (e1 : eget e 1 = Bo x) (e7 : eget e 7 = I L.length) (e8 : eget e 8 = I 0)
    (hQ : ∀ e', L.contains x = false → Q .normal e' h (M0 h)) (hR : ∀ e' (i : Nat), L.contains x = true → eget e' 4 = N i → Q .ret e' h (M0 h)) :
    wp PR h.length false (.loop c252_l0) e h (M0 h) (onBlk 0 Q) := by
  refine wp_range (n := L.length) (fun i e h' m => eget e 0 = .sl (some ⟨b, L.length, 0⟩) L.length c ∧ eget e 1 = Bo x ∧ eget e 7 = I L.length ∧ h' = h ∧ m = M0 h ∧ ∀ y ∈ L.take i, y ≠ x) (by omega) (by simp) ?_ ?_ ?_ e8 ?_ ?_
  · rintro i e h m t v (rfl | rfl | rfl) hJ <;> simpa using hJ
  · rintro i e h m ⟨_, _, e7, _⟩; exact e7
  · exact ⟨e0, e1, e7, rfl, rfl, by simp⟩
  · rintro i e _ _ hi ⟨e0, e1, e7, rfl, rfl, hz⟩ e8
    obtain ⟨y, hy⟩ : ∃ y, L[i]? = some y := ⟨_, List.getElem?_eq_getElem hi⟩
    by_cases hxy : x = y
    · subst hxy
      have hc : L.contains x = true := by simpa using List.mem_of_getElem? hy
      simp [e0, e1, e7, e8, hi, hb, hy, -getElem?_pos]
      exact hR _ i hc (by simp)
    · have hb2 : (x == y) = false := by simpa using hxy
      simp [e0, e1, e7, e8, hi, hb, hy, hb2, -getElem?_pos]
      have : ∀ z ∈ L.take (i + 1), z ≠ x := by
        intro z hz'
        rw [List.take_add_one, hy, Option.toList_some] at hz'
        rcases List.mem_append.mp hz' with h | h
        · exact hz z h
        · rw [List.mem_singleton] at h; subst h; exact fun h => hxy h.symm
      exact ⟨fun h => by have := this false h; cases x <;> simp_all, fun h => by have := this true h; cases x <;> simp_all⟩
  · rintro e h m ⟨e0, e1, e7, rfl, rfl, hz⟩
    refine hQ _ ?_
    rw [List.take_length] at hz
    cases hc : L.contains x with
    | false => rfl
    | true => exact absurd rfl (hz x (by simpa using hc))

theorem index_c {h : List ABlk} {b : Nat} {ro : Bool} {L : List Bool} {x : Bool} {c : Cap} (hl : L.length ≤ 1000000) (hb : h[b]? = some (.row ro (L.map Bo))) :
    ∃ n : Int, Ends PR (.f 252) [.sl (some ⟨b, L.length, 0⟩) L.length c, Bo x] h ⟨I n, h, [], none⟩ ∧ (0 ≤ n ↔ L.contains x = true) := by
  have key : ∃ r, Ends PR (.f 252) [.sl (some ⟨b, L.length, 0⟩) L.length c, Bo x] h r ∧ ∃ n : Int, r = ⟨I n, h, [], none⟩ ∧ (0 ≤ n ↔ L.contains x = true) := by
    refine ends_some' p252 (by simp [c252]) ?_
    simp [c252]
    refine c252_l0_wp (H := h) hl hb rfl rfl rfl rfl ?_ ?_
    · intro e hc
      have := gc_none (h := h) (l := []) (v := I (-1)) rfl
      simp only [List.append_nil] at this
      simp only [kSeq_ap, onSeq_normal, wp_seq, wp_region, wpOps_cons, wpStep_none, wpOp_mv, av_c, kStep_ap, setD_some, mup_none, kOps_ap, wpOps_nil, kQ_ap, wp_ret, onSeq_ret, someQ_ret, aResL_cons, aRes_tmp, eget_same, aResL_nil, Option.bind_some, Option.map_some]
      have hc' : x ∉ L := by simpa using hc
      exact ⟨_, _, _, rfl, by simpa using this, -1, rfl, ⟨fun h => by omega, fun h => absurd h hc'⟩⟩
    · intro e i hc e4
      have := gc_none (h := h) (l := []) (v := N i) rfl
      simp only [List.append_nil] at this
      simp only [onSeq_ret, someQ_ret, aResL_cons, aRes_tmp, e4, aResL_nil, Option.bind_some, Option.map_some]
      have hc' : x ∈ L := by simpa using hc
      exact ⟨_, _, _, rfl, by simpa using this, i, rfl, ⟨fun _ => hc', fun _ => by omega⟩⟩
  obtain ⟨r, hr, n, rfl, hn⟩ := key
  exact ⟨n, hr, hn⟩

theorem contains_c {h : List ABlk} {b : Nat} {ro : Bool} {L : List Bool} {x : Bool} {c : Cap} (hl : L.length ≤ 1000000) (hb : h[b]? = some (.row ro (L.map Bo))) :
    Ends PR (.f 181) [.sl (some ⟨b, L.length, 0⟩) L.length c, Bo x] h ⟨Bo (L.contains x), h, [], none⟩ := by
  obtain ⟨n, hn, hn2⟩ := index_c (c := c) (x := x) hl hb
  refine ends_of p181 (by simp [c181]) ?_
  have := gc_none (h := h) (l := []) (v := Bo (decide (n ≥ 0))) rfl
  simp only [List.append_nil] at this
  have hd : decide (n ≥ 0) = L.contains x := by
    cases hc : L.contains x with
    | false => rw [hc] at hn2; simp at hn2 ⊢; omega
    | true => rw [hc] at hn2; simp at hn2 ⊢; omega
  rw [hd] at this
  simp only [c181, wp_seq, wp_region, wpOps_cons, wpStep_none, wpOp_mv, av_c, av_t, kStep_ap, setD_some, mup_none, kOps_ap, wpOps_nil, kQ_ap, wp_ret, onSeq_ret, onSeq_normal, kSeq_ap, wpOp_call, List.map_cons, List.map_nil, eset_succ, eset_zero, eset_nils, eset_nil0, eget_zero, eget_succ, ends_eq hn, kFst_ap, wpOp_bin, aBin_geq, kVal_some, hd, retQ_ret, aResL_cons, aRes_tmp, aResL_nil, Option.bind_some, Option.map_some, kGc_some, tupOf_one, gcD_base, this]
  exact ⟨_, _, rfl, rfl⟩

theorem comesIn_c (h : List ABlk) (x : X) (p : Nat) : Ends PR (.f 254) [.agg x.cells, N p] h ⟨Bo (p == 0 || (p == 3 && decide (0 < x.s)) || (p == 1 && decide (x.s < 0))), h, [], none⟩ := by
  refine ends_of p254 (by simp [c254]) ?_
  by_cases h0 : p = 0
  · subst h0; simp [c254, X.cells, gc_none]
  · by_cases h3 : p = 3
    · subst h3; by_cases hs : 0 < x.s <;> simp [c254, X.cells, gc_none, hs]
    · by_cases h1 : p = 1
      · subst h1; by_cases hs : x.s < 0 <;> simp [c254, X.cells, gc_none, hs]
      · have g0 : ¬ (p : Int) = 0 := by omega
        have g1 : ¬ (p : Int) = 1 := by omega
        have g3 : ¬ (p : Int) = 3 := by omega
        simp [c254, X.cells, gc_none, h0, h1, h3, g0, g1, g3]

theorem turned_c (h : List ABlk) (c p : Nat) (n : Int) (hp : p < 4) (hn : -1 ≤ n ∧ n ≤ 1) (q : Nat) (hq : ((p : Int) + n + 4) % 4 = q) : Ends PR (.f 176) [.agg [N c, N p], I n] h ⟨.agg [N c, N q], h, [], none⟩ := by
  have w1 : IntKind.i64.wrap ((p : Int) + n) = p + n := wrap64 (by omega) (by omega)
  have w2 : IntKind.i64.wrap ((p : Int) + n + 4) = p + n + 4 := wrap64 (by omega) (by omega)
  have ht : ((p : Int) + n + 4).tmod 4 = q := by rw [← hq, Int.tmod_eq_emod_of_nonneg (by omega)]
  refine ends_of p176 (by simp [c176]) ?_
  simp [c176, w1, w2, ht, gc_none]

end Go.Proofs.Ytocoadpepofbbaa.AM

/-
  THE PACKAGE outside, part 2: which diagrams are mixed.
-/
set_option linter.unusedVariables false
set_option linter.unusedSimpArgs false
set_option maxRecDepth 10000
namespace Go.Proofs.Ytocoadpepofbbaa.AM
open Go

/-! ### the numbers of the components -/
theorem walkSet_num {nxt : Nat → Nat} {n : Int} (h0 : 0 ≤ n) : ∀ (f : Nat) (L : List Int) (b : Nat), Num (n + 1) L → Num (n + 1) (walkSet nxt n f L b)
  | 0, L, b, h => h
  | f + 1, L, b, h => by
    simp only [walkSet]
    split
    · refine walkSet_num h0 f _ _ ?_
      intro x hx
      rcases mem_set' hx with rfl | hx
      · exact .inr ⟨h0, by omega⟩
      · exact h x hx
    · exact h
theorem walkSet_keep {nxt : Nat → Nat} {n : Int} : ∀ (f : Nat) (L : List Int) (b : Nat), Keep L (walkSet nxt n f L b)
  | 0, L, b => fun _ _ h _ => h
  | f + 1, L, b => by
    intro i x hi hx
    simp only [walkSet]
    split
    · rename_i hc
      refine walkSet_keep f _ _ i x ?_ hx
      rw [List.getElem?_set_ne]
      · exact hi
      · rintro rfl; rw [hi] at hc; simp at hc; omega
    · exact hi
theorem comps_num (nxt : Nat → Nat) (M : Nat) : ∀ i, i ≤ M → Num (comps nxt M i).2 (comps nxt M i).1 ∧ ∀ j, j < i → ∃ x, (comps nxt M i).1[j]? = some x ∧ 0 ≤ x
  | 0, _ => ⟨fun x hx => by simp [comps] at hx; exact .inl hx.2, fun j hj => by omega⟩
  | i + 1, hi => by
    obtain ⟨h1, h2⟩ := comps_num nxt M i (by omega)
    have hn := comps_n nxt M i
    have hl := comps_len nxt M i
    obtain ⟨x, hx⟩ : ∃ x, (comps nxt M i).1[i]? = some x := ⟨_, List.getElem?_eq_getElem (by omega)⟩
    rw [comps_succ, compStep, hx, Option.getD_some]
    by_cases h0 : 0 ≤ x
    · rw [if_pos h0]
      refine ⟨h1, fun j hj => ?_⟩
      by_cases hji : j < i
      · exact h2 j hji
      · have : j = i := by omega
        subst this; exact ⟨x, hx, h0⟩
    · rw [if_neg h0]
      have hset : Num ((comps nxt M i).2 + 1) (comps nxt M i).1 := by
        intro y hy
        rcases h1 y hy with h | h
        · exact .inl h
        · exact .inr ⟨h.1, by omega⟩
      refine ⟨walkSet_num hn.1 _ _ _ hset, fun j hj => ?_⟩
      by_cases hji : j < i
      · obtain ⟨y, hy, hy0⟩ := h2 j hji
        exact ⟨y, walkSet_keep _ _ _ j y hy hy0, hy0⟩
      · have : j = i := by omega
        subst this
        refine ⟨(comps nxt M j).2, ?_, hn.1⟩
        dsimp only
        rw [walkSet, hx, Option.getD_some, if_pos (by omega)]
        exact walkSet_keep _ _ _ j _ (by rw [List.getElem?_set_self (by omega)]) hn.1
theorem comps_ok (nxt : Nat → Nat) (M : Nat) {j : Nat} (hj : j < M) : ∃ k : Nat, (comps nxt M M).1[j]? = some (k : Int) ∧ (k : Int) < (comps nxt M M).2 := by
  obtain ⟨h1, h2⟩ := comps_num nxt M M (Nat.le_refl _)
  obtain ⟨x, hx, hx0⟩ := h2 j hj
  rcases h1 x (List.mem_of_getElem? hx) with h | h
  · omega
  · exact ⟨x.toNat, by rw [hx]; congr 1; omega, by omega⟩

/-! ### mixed -/
/-- The components that have an arc of a kind at the first crossings. -/
def hitS (of : List Int) (arc : X → Int) (xs : List X) (L : List Bool) : List Bool := xs.foldl (fun L x => L.set ((of[(arc x).toNat]?).getD 0).toNat true) L
theorem hitS_len (of : List Int) (arc : X → Int) : ∀ (xs : List X) (L : List Bool), (hitS of arc xs L).length = L.length
  | [], _ => rfl
  | x :: xs, L => by
    have := hitS_len of arc xs (L.set ((of[(arc x).toNat]?).getD 0).toNat true)
    simpa [hitS] using this
theorem hitS_succ (of : List Int) (arc : X → Int) (xs : List X) (L : List Bool) {i : Nat} {x : X} (hx : xs[i]? = some x) : hitS of arc (xs.take (i + 1)) L = (hitS of arc (xs.take i) L).set ((of[(arc x).toNat]?).getD 0).toNat true := by
  rw [hitS, List.take_add_one, hx, Option.toList_some, List.foldl_append]; rfl
def mixedS (xs : List X) (loops : Int) : Bool :=
  if xs.length = 0 ∨ 0 < loops then false
  else if (regsS xs).length ≠ xs.length + 2 then false
  else !(hitS (compsS xs).1 X.a0 xs (List.replicate (compsS xs).2.toNat false)).contains false && !(hitS (compsS xs).1 X.a1 xs (List.replicate (compsS xs).2.toNat false)).contains false

abbrev BL (b n : Nat) : AV := .sl (some ⟨b, n, 0⟩) n (.k n)

theorem c102_l0_wp {Q : ExK} {h R : List ABlk} {a : Option Ad} {c : Cap} {xs : List X} {of : List Int} {K : Nat} {Bd : ABlk} {e : List AV} (hA : SlAt h a xs.length 5 (xs.flatMap X.cells)) (hn : xs.length ≤ 200)
    (hof : of.length = 2 * xs.length) (hok : ∀ j, j < 2 * xs.length → ∃ k : Nat, of[j]? = some (k : Int) ∧ k < K) (S : Snd xs)
    (e5 : eget e 5 = SL (h.length + (R.length + 1)) (2 * xs.length)) (e8 : eget e 8 = BL (h.length + (R.length + 1 + 1)) K) (e9 : eget e 9 = BL (h.length + (R.length + 1 + 1 + 1)) K) (e48 : eget e 48 = .sl a xs.length c) (e49 : eget e 49 = I xs.length) (e50 : eget e 50 = I 0)
    (hQ : ∀ e' g, eget e' 8 = BL (h.length + (R.length + 1 + 1)) K → eget e' 9 = BL (h.length + (R.length + 1 + 1 + 1)) K →
      Q .normal e' (h ++ Bd :: (R ++ .row false (of.map I) :: .row false ((hitS of X.a0 xs (List.replicate K false)).map Bo) :: .row false ((hitS of X.a1 xs (List.replicate K false)).map Bo) :: g)) (M0 h)) :
    wp PR h.length false (.loop c102_l0) e (h ++ Bd :: (R ++ [.row false (of.map I), .row false (List.replicate K (Bo false)), .row false (List.replicate K (Bo false))])) (M0 h) (onBlk 0 Q) := by
  refine wp_range (n := xs.length) (fun i e h' m => eget e 5 = SL (h.length + (R.length + 1)) (2 * xs.length) ∧ eget e 8 = BL (h.length + (R.length + 1 + 1)) K ∧ eget e 9 = BL (h.length + (R.length + 1 + 1 + 1)) K ∧ eget e 48 = .sl a xs.length c ∧ eget e 49 = I xs.length ∧ m = M0 h ∧
    ∃ g, h' = h ++ Bd :: (R ++ .row false (of.map I) :: .row false ((hitS of X.a0 (xs.take i) (List.replicate K false)).map Bo) :: .row false ((hitS of X.a1 (xs.take i) (List.replicate K false)).map Bo) :: g)) (by omega) (by simp) ?_ ?_ ?_ e50 ?_ ?_
  · rintro i e h m t v (rfl | rfl | rfl) hJ <;> simpa using hJ
  · rintro i e h m ⟨_, _, _, _, e49, _⟩; exact e49
  · exact ⟨e5, e8, e9, e48, e49, rfl, [], by simp [hitS]⟩
  · rintro i e _ _ hi ⟨e5, e8, e9, e48, e49, rfl, g, rfl⟩ e50
    obtain ⟨b, ro, rfl, hb', hb, lb⟩ := hA.get hi
    obtain ⟨x, hx⟩ : ∃ x, xs[i]? = some x := ⟨_, List.getElem?_eq_getElem hi⟩
    have hT : List.take 5 (List.drop (i * 5) (xs.flatMap X.cells)) = x.cells := flatMap_at (k := 5) (fun _ => rfl) hx
    have e3 : i * 5 + 5 ≤ xs.length * 5 := by omega
    have hwr : wrN [AV.int .i64 0, AV.int .i64 0, AV.int .i64 0, AV.int .i64 0, AV.int .i64 0] 0 x.cells = x.cells := wrN_all rfl
    have hs0 := hitS_succ of X.a0 xs (List.replicate K false) hx
    have hs1 := hitS_succ of X.a1 xs (List.replicate K false) hx
    have hl0 : (hitS of X.a0 (xs.take i) (List.replicate K false)).length = K := by rw [hitS_len]; simp
    have hl1 : (hitS of X.a1 (xs.take i) (List.replicate K false)).length = K := by rw [hitS_len]; simp
    obtain ⟨T0, hT0⟩ : ∃ T, T = hitS of X.a0 (xs.take i) (List.replicate K false) := ⟨_, rfl⟩
    obtain ⟨T1, hT1⟩ : ∃ T, T = hitS of X.a1 (xs.take i) (List.replicate K false) := ⟨_, rfl⟩
    rw [← hT0] at hl0 hs0 ⊢
    rw [← hT1] at hl1 hs1 ⊢
    obtain ⟨n0, hn0, hlt0⟩ := S.arc (q := (i, 0)) (mem_places.mpr ⟨hi, by simp⟩)
    obtain ⟨n1, hn1, hlt1⟩ := S.arc (q := (i, 1)) (mem_places.mpr ⟨hi, by simp⟩)
    have hx0 : x.a0 = n0 := by rw [← hn0]; simp [arcAt, hx, X.arc]
    have hx1 : x.a1 = n1 := by rw [← hn1]; simp [arcAt, hx, X.arc]
    obtain ⟨k0, hk0, hkl0⟩ := hok n0 hlt0
    obtain ⟨k1, hk1, hkl1⟩ := hok n1 hlt1
    have hc0 : x.cells[0]? = some (N n0) := by show some (I x.a0) = _; rw [hx0]
    have hc1 : x.cells[1]? = some (N n1) := by show some (I x.a1) = _; rw [hx1]
    have hk0' : k0 + 1 ≤ K := hkl0
    have hk1' : k1 + 1 ≤ K := hkl1
    simp [e5, e8, e9, e48, e49, e50, hi, hb', hb, lb, e3, hT, hwr, X.cells_one, hc0, hc1, hof, hlt0, hlt1, hk0, hk1, hkl0, hkl1, hk0', hk1', hl0, hl1, hs0, hs1, hx0, hx1, List.map_set, -getElem?_pos]
    exact ⟨by omega, by omega⟩
  · rintro e h m ⟨e5, e8, e9, e48, e49, rfl, g, rfl⟩
    have := hQ e g e8 e9
    rwa [List.take_length]

theorem mixed_c {h : List ABlk} {v : AV} {xs : List X} {loops : Int} (H : DiaIn h v xs loops) (h0 : enterS xs loops = 0) : Ends PR (.f 102) [v] h ⟨Bo (mixedS xs loops), h, [], none⟩ := by
  have hreg := fun l => Regions_c (H.ext (l := l))
  have hcom := fun l => Components_c (H.ext (l := l))
  obtain ⟨a, c, rfl, hA, ha⟩ := H
  obtain ⟨hE, g1, g2, g3, S⟩ := enterS_zero h0
  simp only [if_pos h0] at hreg hcom
  refine ends_of p102 (by simp [c102]) ?_
  by_cases hz : xs.length = 0
  · have hz' : (xs.length : Int) = 0 := by omega
    simp [c102, hz, mixedS, gc_none]
  · have hz' : ¬ (xs.length : Int) = 0 := by omega
    by_cases hlo : 0 < loops
    · simp [c102, hz, hz', hlo, mixedS, gc_none]
    · have hlo0 : loops = 0 := by omega
      subst hlo0
      have hw : IntKind.i64.wrap ((xs.length : Int) + 2) = (xs.length + 2 : Nat) := by rw [wrap64 (by omega) (by omega)]; rfl
      obtain ⟨R, hR⟩ : ∃ R, R = llBlks (h.length + 1) ((regsS xs).map rwOf) := ⟨_, rfl⟩
      by_cases hrl : (regsS xs).length = xs.length + 2
      · have hrl' : ((regsS xs).length : Int) = (xs.length : Int) + 2 := by omega
        have hcn := comps_n (nxtS xs) (2 * xs.length) (2 * xs.length)
        obtain ⟨K, hK⟩ : ∃ K : Nat, (compsS xs).2 = K := ⟨(compsS xs).2.toNat, by unfold compsS; omega⟩
        have hKl : K ≤ 400 := by unfold compsS at hK; omega
        have w1 : IntKind.i64.wrap (K : Int) = K := wrap64 (by omega) (by omega)
        have w2 : (K : Int) ≤ 281474976710656 := by omega
        simp [c102, hz, hz', ends_eq (hreg _), hw, hrl, hrl', ends_eq (hcom _), hK, w1, w2, ← hR]
        refine c102_l0_wp (R := R) (c := c) (of := (compsS xs).1) (K := K) hA (by omega) (comps_len _ _ _) ?_ S ?_ ?_ ?_ ?_ ?_ ?_ ?_
        · intro j hj
          obtain ⟨k, h1, h2⟩ := comps_ok (nxtS xs) (2 * xs.length) hj
          refine ⟨k, h1, ?_⟩
          have : (comps (nxtS xs) (2 * xs.length) (2 * xs.length)).2 = K := hK
          omega
        · simp
        · simp
        · simp
        · simp
        · simp
        · simp
        · intro e g f8 f9
          have hl0 : (hitS (compsS xs).1 X.a0 xs (List.replicate K false)).length = K := by rw [hitS_len]; simp
          have hl1 : (hitS (compsS xs).1 X.a1 xs (List.replicate K false)).length = K := by rw [hitS_len]; simp
          have hms : mixedS xs 0 = (!(hitS (compsS xs).1 X.a0 xs (List.replicate K false)).contains false && !(hitS (compsS xs).1 X.a1 xs (List.replicate K false)).contains false) := by
            simp only [mixedS, hz, hrl, hK]; rw [if_neg (by simp), if_neg (by simp)]; rfl
          rw [hms]
          obtain ⟨T0, hT0⟩ : ∃ T, T = hitS (compsS xs).1 X.a0 xs (List.replicate K false) := ⟨_, rfl⟩
          obtain ⟨T1, hT1⟩ : ∃ T, T = hitS (compsS xs).1 X.a1 xs (List.replicate K false) := ⟨_, rfl⟩
          rw [← hT0] at hl0 ⊢
          rw [← hT1] at hl1 ⊢
          have c0 := contains_c (h := h ++ ABlk.row false [AV.sl a xs.length c, I 0] :: (R ++ .row false ((compsS xs).1.map I) :: .row false (T0.map Bo) :: .row false (T1.map Bo) :: g)) (b := h.length + (R.length + 1 + 1)) (ro := false) (L := T0) (x := false) (c := .k K) (by omega) (by rw [hget_new, gconsS, hget_new]; rfl)
          have c1 := contains_c (h := h ++ ABlk.row false [AV.sl a xs.length c, I 0] :: (R ++ .row false ((compsS xs).1.map I) :: .row false (T0.map Bo) :: .row false (T1.map Bo) :: g)) (b := h.length + (R.length + 1 + 1 + 1)) (ro := false) (L := T1) (x := false) (c := .k K) (by omega) (by rw [hget_new, gconsS, hget_new]; rfl)
          rw [hl0] at c0
          rw [hl1] at c1
          obtain ⟨z0, hz0⟩ : ∃ z, z = T0.contains false := ⟨_, rfl⟩
          obtain ⟨z1, hz1⟩ : ∃ z, z = T1.contains false := ⟨_, rfl⟩
          rw [← hz0] at c0 ⊢
          rw [← hz1] at c1 ⊢
          cases z0 <;> simp [f8, f9, ends_eq c0, ends_eq c1, gc_none]
      · have hrl' : ¬ ((regsS xs).length : Int) = (xs.length : Int) + 2 := by omega
        simp [c102, hz, hz', ends_eq (hreg _), hw, hrl, hrl', mixedS, gc_none]

theorem Mixed_c {h : List ABlk} {v : AV} {xs : List X} {loops : Int} (H : DiaIn h v xs loops) : Ends PR (.f 23) [v] h ⟨Bo (enterS xs loops == 0 && mixedS xs loops), h, [], none⟩ := by
  have hch := fun l => check_c (H.ext (l := l))
  have hmi := fun l h0 => mixed_c (H.ext (l := l)) h0
  obtain ⟨a, c, rfl, hA, ha⟩ := H
  refine ends_of p23 (by simp [c23]) ?_
  by_cases h0 : enterS xs loops = 0
  · simp [c23, ends_eq (hch _), ends_eq (hmi _ h0), h0, gc_none]
  · have hb : (enterS xs loops == 0) = false := by simpa using h0
    simp [c23, ends_eq (hch _), hb, gc_none]

/-- The error of a diagram whose outside is asked for. -/
def askedS (xs : List X) (loops : Int) : Int := if enterS xs loops = 0 then (if mixedS xs loops then 0 else 290) else enterS xs loops
theorem asked_c {h : List ABlk} {v : AV} {xs : List X} {loops : Int} (H : DiaIn h v xs loops) : Ends PR (.f 98) [v] h ⟨I (askedS xs loops), h, [], none⟩ := by
  have hch := fun l => check_c (H.ext (l := l))
  have hmi := fun l h0 => mixed_c (H.ext (l := l)) h0
  obtain ⟨a, c, rfl, hA, ha⟩ := H
  refine ends_of p98 (by simp [c98]) ?_
  by_cases h0 : enterS xs loops = 0
  · cases hm : mixedS xs loops <;> simp [c98, ends_eq (hch _), ends_eq (hmi _ h0), h0, hm, gc_none, askedS]
  · simp [c98, ends_eq (hch _), h0, gc_none, askedS]

end Go.Proofs.Ytocoadpepofbbaa.AM

/-
  THE PACKAGE outside, part 3: the places at which an arc begins and ends, and the faces along it.
-/
set_option linter.unusedVariables false
set_option linter.unusedSimpArgs false
set_option maxRecDepth 10000
namespace Go.Proofs.Ytocoadpepofbbaa.AM
open Go

def X.comes (x : X) (p : Nat) : Bool := p == 0 || (p == 3 && decide (0 < x.s)) || (p == 1 && decide (x.s < 0))
/-- One place more in the search for both ends of an arc. -/
def scanP (x : X) (a : Int) (i : Nat) (s : Pl × Pl) (p : Nat) : Pl × Pl := if x.arc p = a then (if x.comes p then (s.1, (i, p)) else ((i, p), s.2)) else s
def scanPs (x : X) (a : Int) (i : Nat) (s : Pl × Pl) (k : Nat) : Pl × Pl := (List.range k).foldl (scanP x a i) s
def scanX (xs : List X) (a : Int) (s : Pl × Pl) (i : Nat) : Pl × Pl := match xs[i]? with | some x => scanPs x a i s 4 | none => s
def scanXs (xs : List X) (a : Int) (k : Nat) : Pl × Pl := (List.range k).foldl (scanX xs a) ((0, 0), (0, 0))
theorem scanPs_succ (x : X) (a : Int) (i : Nat) (s : Pl × Pl) (k : Nat) : scanPs x a i s (k + 1) = scanP x a i (scanPs x a i s k) k := by simp [scanPs, List.range_succ]
theorem scanXs_succ (xs : List X) (a : Int) (k : Nat) : scanXs xs a (k + 1) = scanX xs a (scanXs xs a k) k := by simp [scanXs, List.range_succ]

theorem comes_out {x : X} (hs : x.s = 1 ∨ x.s = -1) {p : Nat} (hp : p < 4) : x.comes p = !x.out p := by
  have w1 : IntKind.i64.wrap 1 = 1 := wrap64 (by omega) (by omega)
  have w2 : IntKind.i64.wrap 3 = 3 := wrap64 (by omega) (by omega)
  rcases hs with h | h <;> (match p, hp with
    | 0, _ => simp [X.comes, X.out, h, w1, w2]
    | 1, _ => simp [X.comes, X.out, h, w1, w2]
    | 2, _ => simp [X.comes, X.out, h, w1, w2]
    | 3, _ => simp [X.comes, X.out, h, w1, w2])

/-- What is known of a search: each end has been found, or not met. -/
def Found (xs : List X) (a : Nat) (L : List Pl) (s : Pl × Pl) : Prop :=
  (∀ q ∈ L, keyAt xs q = ((a : Int), true) → s.1 = q) ∧ (∀ q ∈ L, keyAt xs q = ((a : Int), false) → s.2 = q)
theorem Snd.found_p {xs : List X} (S : Snd xs) {a i p : Nat} {x : X} (hx : xs[i]? = some x) (hp : p < 4) {L : List Pl} (hL : ∀ q ∈ L, q ∈ places xs.length) {s : Pl × Pl} (h : Found xs a L s) : Found xs a (L ++ [(i, p)]) (scanP x a i s p) := by
  have hq : (i, p) ∈ places xs.length := mem_places.mpr ⟨lt_get hx, hp⟩
  have hco := comes_out (S.sgn x (List.mem_of_getElem? hx)) hp
  have hk : keyAt xs (i, p) = (x.arc p, x.out p) := by simp [keyAt, arcAt, outAt, hx]
  unfold scanP
  by_cases ha : x.arc p = a
  · rw [if_pos ha, hco]
    cases ho : x.out p with
    | true =>
      refine ⟨fun q hm hkq => ?_, fun q hm hkq => ?_⟩
      · have hqp : q ∈ places xs.length := by rcases List.mem_append.mp hm with h' | h'; exact hL q h'; rw [List.mem_singleton] at h'; rw [h']; exact hq
        exact (S.inj _ hqp _ hq (by rw [hkq, hk, ha, ho])).symm
      · rcases List.mem_append.mp hm with h' | h'
        · exact h.2 q h' hkq
        · rw [List.mem_singleton] at h'; subst h'; rw [hk, ho] at hkq; simp at hkq
    | false =>
      refine ⟨fun q hm hkq => ?_, fun q hm hkq => ?_⟩
      · rcases List.mem_append.mp hm with h' | h'
        · exact h.1 q h' hkq
        · rw [List.mem_singleton] at h'; subst h'; rw [hk, ho] at hkq; simp at hkq
      · have hqp : q ∈ places xs.length := by rcases List.mem_append.mp hm with h' | h'; exact hL q h'; rw [List.mem_singleton] at h'; rw [h']; exact hq
        exact (S.inj _ hqp _ hq (by rw [hkq, hk, ha, ho])).symm
  · rw [if_neg ha]
    refine ⟨fun q hm hkq => ?_, fun q hm hkq => ?_⟩
    · rcases List.mem_append.mp hm with h' | h'
      · exact h.1 q h' hkq
      · rw [List.mem_singleton] at h'; subst h'; rw [hk] at hkq; simp at hkq; exact (ha hkq.1).elim
    · rcases List.mem_append.mp hm with h' | h'
      · exact h.2 q h' hkq
      · rw [List.mem_singleton] at h'; subst h'; rw [hk] at hkq; simp at hkq; exact (ha hkq.1).elim
theorem Snd.found_ps {xs : List X} (S : Snd xs) {a i : Nat} {x : X} (hx : xs[i]? = some x) {s : Pl × Pl} (h : Found xs a (places i) s) : ∀ k, k ≤ 4 → Found xs a (places i ++ (List.range k).map fun p => (i, p)) (scanPs x a i s k)
  | 0, _ => by simpa [scanPs] using h
  | k + 1, hk => by
    rw [scanPs_succ, List.range_succ, List.map_append, ← List.append_assoc]
    refine S.found_p hx (by omega) ?_ (S.found_ps hx h k (by omega))
    intro q hq
    have hi := lt_get hx
    rcases List.mem_append.mp hq with h' | h'
    · rw [mem_places] at h' ⊢; omega
    · obtain ⟨p, hp, rfl⟩ := List.mem_map.mp h'
      rw [List.mem_range] at hp
      rw [mem_places]; exact ⟨hi, by dsimp only; omega⟩
theorem Snd.found {xs : List X} (S : Snd xs) (a : Nat) : ∀ k, k ≤ xs.length → Found xs a (places k) (scanXs xs a k)
  | 0, _ => ⟨by simp [places], by simp [places]⟩
  | k + 1, hk => by
    obtain ⟨x, hx⟩ : ∃ x, xs[k]? = some x := ⟨_, List.getElem?_eq_getElem (by omega)⟩
    rw [scanXs_succ, scanX, hx, places_succ]
    exact S.found_ps hx (S.found a k (by omega)) 4 (by omega)
theorem Snd.scan {xs : List X} (S : Snd xs) {a : Nat} (ha : a < 2 * xs.length) : scanXs xs a xs.length = (AM.endPl xs ((a : Int), true), AM.endPl xs ((a : Int), false)) := by
  have h := S.found a xs.length (Nat.le_refl _)
  have h1 := S.endPl ha true
  have h2 := S.endPl ha false
  exact Prod.ext (h.1 _ h1.1 h1.2) (h.2 _ h2.1 h2.2)

theorem c183_l0_wp {Q : ExK} {h g : List ABlk} {xs : List X} {arc : Int} {x : X} {i : Nat} {s : Pl × Pl} {Bd : ABlk} {e : List AV} {x11 x12 x13 : AV} (hn : xs.length ≤ 200)
    (e1 : eget e 1 = I arc) (e4 : eget e 4 = .ptr (some ⟨h.length + 1, 2, 0⟩)) (e5 : eget e 5 = .ptr (some ⟨h.length + 2, 2, 0⟩)) (e6 : eget e 6 = I i) (e7 : eget e 7 = .ptr (some ⟨h.length + (g.length + 1 + 1 + 1), 5, 0⟩))
    (e11 : eget e 11 = x11) (e12 : eget e 12 = x12) (e13 : eget e 13 = x13) (e19 : eget e 19 = .agg [I x.a0, I x.a1, I x.a2, I x.a3]) (e20 : eget e 20 = I 0)
    (hQ : ∀ e', eget e' 1 = I arc → eget e' 4 = .ptr (some ⟨h.length + 1, 2, 0⟩) → eget e' 5 = .ptr (some ⟨h.length + 2, 2, 0⟩) → eget e' 11 = x11 → eget e' 12 = x12 → eget e' 13 = x13 →
      Q .normal e' (h ++ Bd :: .row false (plC (scanPs x arc i s 4).1) :: .row false (plC (scanPs x arc i s 4).2) :: (g ++ [.row false x.cells])) (M0 h)) :
    wp PR h.length false (.loop c183_l0) e (h ++ Bd :: .row false (plC s.1) :: .row false (plC s.2) :: (g ++ [.row false x.cells])) (M0 h) (onBlk 2 Q) := by
  refine wp_range (n := 4) (fun p e h' m => eget e 1 = I arc ∧ eget e 4 = .ptr (some ⟨h.length + 1, 2, 0⟩) ∧ eget e 5 = .ptr (some ⟨h.length + 2, 2, 0⟩) ∧ eget e 6 = I i ∧ eget e 7 = .ptr (some ⟨h.length + (g.length + 1 + 1 + 1), 5, 0⟩) ∧
    eget e 11 = x11 ∧ eget e 12 = x12 ∧ eget e 13 = x13 ∧ eget e 19 = .agg [I x.a0, I x.a1, I x.a2, I x.a3] ∧ m = M0 h ∧
    h' = h ++ Bd :: .row false (plC (scanPs x arc i s p).1) :: .row false (plC (scanPs x arc i s p).2) :: (g ++ [.row false x.cells])) (by omega) (by simp) ?_ ?_ ?_ e20 ?_ ?_
  · rintro i e h m t v (rfl | rfl | rfl) hJ <;> simpa using hJ
  · rintro i e h m _; rfl
  · exact ⟨e1, e4, e5, e6, e7, e11, e12, e13, e19, rfl, rfl⟩
  · rintro p e _ _ hp ⟨e1, e4, e5, e6, e7, e11, e12, e13, e19, rfl, rfl⟩ e20
    have hag : [I x.a0, I x.a1, I x.a2, I x.a3][p]? = some (I (x.arc p)) := by
      match p, hp with
      | 0, _ => rfl
      | 1, _ => rfl
      | 2, _ => rfl
      | 3, _ => rfl
    have hp4 : (p : Int) < 4 := by omega
    have hc := fun l => comesIn_c l x p
    have hcm : (p == 0 || (p == 3 && decide (0 < x.s)) || (p == 1 && decide (x.s < 0))) = x.comes p := rfl
    rw [hcm] at hc
    have hsucc := scanPs_succ x arc i s p
    obtain ⟨T, hT⟩ : ∃ T, T = scanPs x arc i s p := ⟨_, rfl⟩
    rw [← hT] at hsucc ⊢
    have hw1 : wrN (plC T.1) 0 [N i, N p] = [N i, N p] := wrN_all rfl
    have hw2 : wrN (plC T.2) 0 [N i, N p] = [N i, N p] := wrN_all rfl
    by_cases ha : x.arc p = arc
    · cases hcv : x.comes p with
      | true =>
        have hst : scanP x arc i T p = (T.1, (i, p)) := by simp [scanP, ha, hcv]
        rw [hcv] at hc
        simp [e1, e4, e5, e6, e7, e11, e12, e13, e19, e20, hag, hp4, hp, ends_eq (hc _), ha, hsucc, hst, hw2, plC, -getElem?_pos]
      | false =>
        have hst : scanP x arc i T p = ((i, p), T.2) := by simp [scanP, ha, hcv]
        rw [hcv] at hc
        simp [e1, e4, e5, e6, e7, e11, e12, e13, e19, e20, hag, hp4, hp, ends_eq (hc _), ha, hsucc, hst, hw1, plC, -getElem?_pos]
    · have hst : scanP x arc i T p = T := by simp [scanP, ha]
      simp [e1, e4, e5, e6, e7, e11, e12, e13, e19, e20, hag, hp4, hp, ha, hsucc, hst, -getElem?_pos]
  · rintro e h m ⟨e1, e4, e5, e6, e7, e11, e12, e13, e19, rfl, rfl⟩
    exact hQ _ e1 e4 e5 e11 e12 e13

theorem c183_l1_wp {Q : ExK} {h : List ABlk} {a : Option Ad} {c : Cap} {xs : List X} {arc : Int} {Bd : ABlk} {e : List AV} (hA : SlAt h a xs.length 5 (xs.flatMap X.cells)) (hn : xs.length ≤ 200)
    (e1 : eget e 1 = I arc) (e4 : eget e 4 = .ptr (some ⟨h.length + 1, 2, 0⟩)) (e5 : eget e 5 = .ptr (some ⟨h.length + 2, 2, 0⟩))
    (e11 : eget e 11 = .sl a xs.length c) (e12 : eget e 12 = I xs.length) (e13 : eget e 13 = I 0)
    (hQ : ∀ e' g, eget e' 4 = .ptr (some ⟨h.length + 1, 2, 0⟩) → eget e' 5 = .ptr (some ⟨h.length + 2, 2, 0⟩) →
      Q .normal e' (h ++ Bd :: .row false (plC (scanXs xs arc xs.length).1) :: .row false (plC (scanXs xs arc xs.length).2) :: g) (M0 h)) :
    wp PR h.length false (.loop c183_l1) e (h ++ [Bd, .row false [N 0, N 0], .row false [N 0, N 0]]) (M0 h) (onBlk 0 Q) := by
  refine wp_range (n := xs.length) (fun i e h' m => eget e 1 = I arc ∧ eget e 4 = .ptr (some ⟨h.length + 1, 2, 0⟩) ∧ eget e 5 = .ptr (some ⟨h.length + 2, 2, 0⟩) ∧
    eget e 11 = .sl a xs.length c ∧ eget e 12 = I xs.length ∧ m = M0 h ∧ ∃ g,
    h' = h ++ Bd :: .row false (plC (scanXs xs arc i).1) :: .row false (plC (scanXs xs arc i).2) :: g) (by omega) (by simp) ?_ ?_ ?_ e13 ?_ ?_
  · rintro i e h m t v (rfl | rfl | rfl) hJ <;> simpa using hJ
  · rintro i e h m ⟨_, _, _, _, e12, _⟩; exact e12
  · exact ⟨e1, e4, e5, e11, e12, rfl, [], by simp [scanXs, plC]⟩
  · rintro i e _ _ hi ⟨e1, e4, e5, e11, e12, rfl, g, rfl⟩ e13
    obtain ⟨b, ro, rfl, hb', hb, lb⟩ := hA.get hi
    obtain ⟨x, hx⟩ : ∃ x, xs[i]? = some x := ⟨_, List.getElem?_eq_getElem hi⟩
    have hT : List.take 5 (List.drop (i * 5) (xs.flatMap X.cells)) = x.cells := flatMap_at (k := 5) (fun _ => rfl) hx
    have e3 : i * 5 + 5 ≤ xs.length * 5 := by omega
    have hwr : wrN [AV.int .i64 0, AV.int .i64 0, AV.int .i64 0, AV.int .i64 0, AV.int .i64 0] 0 x.cells = x.cells := wrN_all rfl
    have hsucc : scanXs xs arc (i + 1) = scanPs x arc i (scanXs xs arc i) 4 := by rw [scanXs_succ, scanX, hx]
    simp [e1, e4, e5, e11, e12, e13, hi, hb', hb, lb, e3, hT, hwr, X.cells_one, -getElem?_pos]
    refine c183_l0_wp (x := x) (i := i) (arc := arc) (x11 := .sl (some ⟨b, xs.length * 5, 0⟩) xs.length c) (x12 := I xs.length) (x13 := I i) hn ?_ ?_ ?_ ?_ ?_ ?_ ?_ ?_ ?_ ?_ ?_
    · simp [e1]
    · simp [e4]
    · simp [e5]
    · simp
    · simp
    · simp [e11]
    · simp [e12]
    · simp [e13]
    · simp
    · simp
    · intro e' f1 f4 f5 f11 f12 f13
      simp [f1, f4, f5, f11, f12, f13, hsucc]
  · rintro e h m ⟨e1, e4, e5, e11, e12, rfl, g, rfl⟩
    exact hQ _ _ e4 e5

theorem endsO_c {h : List ABlk} {v : AV} {xs : List X} {loops : Int} (H : DiaIn h v xs loops) (hn : xs.length ≤ 200) (S : Snd xs) {a : Nat} (ha : a < 2 * xs.length) :
    Ends PR (.f 183) [v, N a] h ⟨.tup [.agg (plC (endPl xs ((a : Int), true))), .agg (plC (endPl xs ((a : Int), false)))], h, [], none⟩ := by
  obtain ⟨ad, c, rfl, hA, hlt⟩ := H
  have hs := S.scan ha
  refine ends_of p183 (by simp [c183]) ?_
  simp [c183]
  refine c183_l1_wp (arc := (a : Int)) (c := c) hA hn rfl rfl rfl rfl rfl rfl ?_
  intro e g f4 f5
  rw [hs]
  simp [f4, f5, plC, chkFP, apartFP, gc_none]

end Go.Proofs.Ytocoadpepofbbaa.AM

/-
  THE PACKAGE outside, part 4: the builder: faces along an arc, and the joining of two faces.
-/
set_option linter.unusedVariables false
set_option linter.unusedSimpArgs false
set_option maxRecDepth 10000
namespace Go.Proofs.Ytocoadpepofbbaa.AM
open Go

/-! ### the numbers of the corners -/
def crn (n : Nat) : List (Pl × Nat) := (places n).map fun q => (q, 4 * q.1 + q.2)
def crnE (m : List (Pl × Nat)) : List (AV × AV) := m.map fun q => (.agg (plC q.1), N q.2)
theorem crnE_find (m : List (Pl × Nat)) (a b : Nat) : aFind (codeD (.agg [N a, N b])) (crnE m) 0 = (lookIx m (a, b) 0).map fun r => (r.1, N r.2) := aFind_map (ke := fun q => .agg (plC q)) (ve := fun n : Nat => N n) plC_inj (a, b) m 0
theorem crnE_put (m : List (Pl × Nat)) (a b v : Nat) : mput (.agg [N a, N b]) (N v) (crnE m) = crnE (mset m (a, b) v) := mput_map (ke := fun q => .agg (plC q)) (ve := fun n : Nat => N n) plC_inj (a, b) v m
theorem crn_look {q : Pl} : ∀ {L : List Pl} {i : Nat}, q ∈ L → ∃ j, lookIx (L.map fun q => (q, 4 * q.1 + q.2)) q i = some (j, 4 * q.1 + q.2)
  | [], i, h => by simp at h
  | r :: L, i, h => by
    simp only [List.map_cons, lookIx]
    by_cases hr : r = q
    · subst hr; exact ⟨i, by simp⟩
    · rw [if_neg hr]
      exact crn_look ((List.mem_cons.mp h).resolve_left fun h => hr h.symm)

/-- A pointer to a builder. -/
structure BP (H : List ABlk) (b fb mb : Nat) (cp : Cap) (xs : List X) (a : Option Ad) (c : Cap) (loops : Int) : Prop where
  st : H[b]? = some (.row false [.sl (some ⟨fb, 80 * xs.length, 0⟩) (4 * xs.length) cp, .sl a xs.length c, I loops, .map (some mb)])
  mp : H[mb]? = some (.map true [some .i64, some .i64] (crnE (crn xs.length)))
  sl : SlAt H a xs.length 5 (xs.flatMap X.cells)
  lt : ∀ p, a = some p → p.b < H.length
theorem BP.ext {H l : List ABlk} {b fb mb : Nat} {cp : Cap} {xs : List X} {a : Option Ad} {c : Cap} {loops : Int} (B : BP H b fb mb cp xs a c loops) : BP (H ++ l) b fb mb cp xs a c loops :=
  ⟨hget_some B.st, hget_some B.mp, B.sl.ext, fun p hp => by have := B.lt p hp; simp; omega⟩
theorem BP.upd {H H' : List ABlk} {W : List Nat} {b fb mb : Nat} {cp : Cap} {xs : List X} {a : Option Ad} {c : Cap} {loops : Int} (B : BP H b fb mb cp xs a c loops) (U : Upd H H' W) (h1 : b ∉ W) (h2 : mb ∉ W) (h3 : ∀ p, a = some p → p.b ∉ W) : BP H' b fb mb cp xs a c loops :=
  ⟨U.get B.st h1, U.get B.mp h2, B.sl.upd U h3, fun p hp => Nat.lt_of_lt_of_le (B.lt p hp) U.1⟩

theorem face_c {H : List ABlk} {b fb mb : Nat} {cp : Cap} {xs : List X} {a : Option Ad} {c : Cap} {loops : Int} (B : BP H b fb mb cp xs a c loops) {i p q : Nat} (hi : i < xs.length) (hp : p < 4) (hq : q < 4) :
    Ends PR (.f 184) [.ptr (some ⟨b, 4, 0⟩), .agg [N i, N p], N q] H ⟨.agg [N (4 * i + p), N (q % 2)], H, [], none⟩ := by
  obtain ⟨j, hj⟩ := crn_look (q := (i, p)) (L := places xs.length) (i := 0) (mem_places.mpr ⟨hi, hp⟩)
  have hf := crnE_find (crn xs.length) i p
  rw [crn, hj] at hf
  have h1 := B.st
  have h2 := B.mp
  have l1 := hlt h1
  have l2 := hlt h2
  have hm : ((q : Int)).tmod 2 = (q % 2 : Nat) := rfl
  refine ends_of p184 (by simp [c184]) ?_
  simp [c184, h1, h2, l1, l2, hget_old, shape_pl, crn, hf, hm, gc_none, -getElem?_pos]

/-- The four faces along an arc. -/
def alongS (xs : List X) (a : Nat) : List (Nat × Nat) :=
  let p := endPl xs ((a : Int), true)
  let q := endPl xs ((a : Int), false)
  [(4 * p.1 + p.2, p.2 % 2), (4 * q.1 + (q.2 + 3) % 4, q.2 % 2), (4 * p.1 + (p.2 + 3) % 4, p.2 % 2), (4 * q.1 + q.2, q.2 % 2)]
def al (xs : List X) (a i : Nat) : Nat × Nat := ((alongS xs a)[i]?).getD (0, 0)

theorem along_c {H : List ABlk} {b fb mb : Nat} {cp : Cap} {xs : List X} {ad : Option Ad} {c : Cap} {loops : Int} (B : BP H b fb mb cp xs ad c loops) (hn : xs.length ≤ 200) (S : Snd xs) {a : Nat} (ha : a < 2 * xs.length) :
    Ends PR (.f 105) [.ptr (some ⟨b, 4, 0⟩), N a] H ⟨.agg ((alongS xs a).flatMap plC), H, [], none⟩ := by
  have hen := fun l => endsO_c (h := H ++ l) (v := .agg [.sl ad xs.length c, I loops]) ⟨ad, c, rfl, B.sl.ext, fun p hp => by have := B.lt p hp; simp; omega⟩ hn S ha
  have hp := mem_places.mp (S.endPl ha true).1
  have hq := mem_places.mp (S.endPl ha false).1
  obtain ⟨p, hP⟩ : ∃ p, p = endPl xs ((a : Int), true) := ⟨_, rfl⟩
  obtain ⟨q, hQ⟩ : ∃ q, q = endPl xs ((a : Int), false) := ⟨_, rfl⟩
  rw [← hP, ← hQ] at hen
  rw [← hP] at hp
  rw [← hQ] at hq
  have hf1 := fun l => face_c (B.ext (l := l)) hp.1 hp.2 hp.2
  have hf2 := fun l => face_c (B.ext (l := l)) (p := (q.2 + 3) % 4) hq.1 (by omega) hq.2
  have hf3 := fun l => face_c (B.ext (l := l)) (p := (p.2 + 3) % 4) hp.1 (by omega) hp.2
  have hf4 := fun l => face_c (B.ext (l := l)) hq.1 hq.2 hq.2
  have ht1 := fun l => turned_c l q.1 q.2 (-1) hq.2 (by omega) ((q.2 + 3) % 4) (by omega)
  have ht2 := fun l => turned_c l p.1 p.2 (-1) hp.2 (by omega) ((p.2 + 3) % 4) (by omega)
  have h1 := B.st
  have l1 := hlt h1
  refine ends_of p105 (by simp [c105]) ?_
  simp [c105, h1, l1, hget_old, ends_eq (hen _), plC, ends_eq (hf1 _), ends_eq (hf2 _), ends_eq (hf3 _), ends_eq (hf4 _), ends_eq (ht1 _), ends_eq (ht2 _), -getElem?_pos]
  refine ⟨by simp [chkFP, apartFP], ?_⟩
  rw [gc_none (by simp)]
  simp only [alongS, ← hP, ← hQ, plC, List.flatMap_cons, List.flatMap_nil, List.cons_append, List.nil_append]

/-! ### the inverses of two permutations -/
def idP : List AV := [I 0, I 1, I 2, I 3]
def swP : List AV := [I 1, I 0, I 2, I 3]
theorem shl_0 : aBin .shl (I 1) (I 0) = some (I 1) := by rfl
theorem shl_1 : aBin .shl (I 1) (I 1) = some (I 2) := by rfl
theorem shl_2 : aBin .shl (I 1) (I 2) = some (I 4) := by rfl
theorem shl_3 : aBin .shl (I 1) (I 3) = some (I 8) := by rfl
theorem or_01 : aBin .or (I 0) (I 1) = some (I 1) := by rfl
theorem or_12 : aBin .or (I 1) (I 2) = some (I 3) := by rfl
theorem or_34 : aBin .or (I 3) (I 4) = some (I 7) := by rfl
theorem or_78 : aBin .or (I 7) (I 8) = some (I 15) := by rfl
theorem or_02 : aBin .or (I 0) (I 2) = some (I 2) := by rfl
theorem or_21 : aBin .or (I 2) (I 1) = some (I 3) := by rfl

theorem wr1 : IntKind.i64.wrap 1 = 1 := by rfl
theorem wr2 : IntKind.i64.wrap 2 = 2 := by rfl
theorem wr3 : IntKind.i64.wrap 3 = 3 := by rfl
theorem wr4 : IntKind.i64.wrap 4 = 4 := by rfl
theorem valid_id (h : List ABlk) : Ends PR (.f 270) [.agg idP] h ⟨Bo true, h, [], none⟩ := by
  refine ends_of p270 (by simp [c270]) ?_
  simp [c270, idP]
  refine wp_loop_n 5 ?_
  simp [itW_succ, c270_l0, shl_0, shl_1, shl_2, shl_3, or_01, or_12, or_34, or_78, wr1, wr2, wr3, wr4, gc_none]
theorem valid_sw (h : List ABlk) : Ends PR (.f 270) [.agg swP] h ⟨Bo true, h, [], none⟩ := by
  refine ends_of p270 (by simp [c270]) ?_
  simp [c270, swP]
  refine wp_loop_n 5 ?_
  simp [itW_succ, c270_l0, shl_0, shl_1, shl_2, shl_3, or_02, or_21, or_34, or_78, wr1, wr2, wr3, wr4, gc_none]
theorem inv_id (h : List ABlk) : Ends PR (.f 271) [.agg idP] h ⟨.agg idP, h, [], none⟩ := by
  refine ends_of p271 (by simp [c271]) ?_
  simp [c271, idP]
  refine wp_loop_n 5 ?_
  simp [itW_succ, c271_l0, wr1, wr2, wr3, wr4, gc_none]
theorem inv_sw (h : List ABlk) : Ends PR (.f 271) [.agg swP] h ⟨.agg swP, h, [], none⟩ := by
  refine ends_of p271 (by simp [c271]) ?_
  simp [c271, swP]
  refine wp_loop_n 5 ?_
  simp [itW_succ, c271_l0, wr1, wr2, wr3, wr4, gc_none]
/-- The two permutations that are used. -/
def PP (P : List AV) : Prop := P = idP ∨ P = swP
theorem inverse_c (h : List ABlk) {P : List AV} (hP : PP P) : Ends PR (.f 247) [.agg P] h ⟨.agg P, h, [], none⟩ := by
  refine ends_of p247 (by simp [c247]) ?_
  rcases hP with rfl | rfl
  · have h1 := valid_id
    have h2 := inv_id
    simp only [idP] at h1 h2
    simp [c247, idP, ends_eq (h1 _), ends_eq (h2 _), gc_none]
  · have h1 := valid_sw
    have h2 := inv_sw
    simp only [swP] at h1 h2
    simp [c247, swP, ends_eq (h1 _), ends_eq (h2 _), gc_none]

/-! ### joining two faces -/
/-- A list with some numbers written from a place on. -/
def spl (L : List AV) (o : Nat) (vs : List AV) : List AV := L.take o ++ (vs ++ L.drop (o + vs.length))
theorem spl_len {L : List AV} {o : Nat} {vs : List AV} (h : o + vs.length ≤ L.length) : (spl L o vs).length = L.length := by simp [spl]; omega
theorem wrN_spl {L : List AV} {o : Nat} {vs : List AV} (h : o + vs.length ≤ L.length) : wrN L o vs = spl L o vs := by
  have h1 : L = L.take o ++ ((L.drop o).take vs.length ++ L.drop (o + vs.length)) := by
    rw [← List.drop_drop, List.take_append_drop, List.take_append_drop]
  have h2 : (L.take o).length = o := by simp; omega
  conv => lhs; rw [h1]; arg 2; rw [← h2]
  rw [wrN_mid _ _ _ _ (by simp; omega)]
  rfl

/-- The faces with two more joined. -/
def joinF (L : List AV) (t f t' f' : Nat) (P : List AV) : List AV := spl (spl L (t * 20 + f * 5) (N t' :: P)) (t' * 20 + f' * 5) (N t :: P)
theorem joinF_len {L : List AV} {n t f t' f' : Nat} {P : List AV} (hP : P.length = 4) (hL : L.length = 80 * n) (h1 : t < 4 * n) (h2 : f < 4) (h3 : t' < 4 * n) (h4 : f' < 4) : (joinF L t f t' f' P).length = 80 * n := by
  have e1 : (spl L (t * 20 + f * 5) (N t' :: P)).length = 80 * n := by rw [spl_len (by simp [hP]; omega), hL]
  rw [joinF, spl_len (by simp [hP, e1]; omega), e1]

theorem join_c {H : List ABlk} {b fb : Nat} {cp : Cap} {rest L P : List AV} {n t f t' f' : Nat} (hb : H[b]? = some (.row false (.sl (some ⟨fb, 80 * n, 0⟩) (4 * n) cp :: rest))) (hrl : rest.length = 3) (hf : H[fb]? = some (.row false L)) (hL : L.length = 80 * n) (hP : PP P)
    (h1 : t < 4 * n) (h2 : f < 4) (h3 : t' < 4 * n) (h4 : f' < 4) :
    Ends PR (.f 177) [.ptr (some ⟨b, 4, 0⟩), .agg [N t, N f], .agg [N t', N f'], .agg P] H ⟨.tup [], H.set fb (.row false (joinF L t f t' f' P)), [fb], none⟩ := by
  have l1 := hlt hb
  have l2 := hlt hf
  have hne : fb ≠ b := by
    rintro rfl
    rw [hf] at hb; simp at hb; subst hb; simp [hrl] at hL; omega
  have hPl : P.length = 4 := by rcases hP with rfl | rfl <;> rfl
  have hPo : P.all AV.one = true := by rcases hP with rfl | rfl <;> rfl
  have hPr : refsL P = [] := by rcases hP with rfl | rfl <;> rfl
  have hPt : List.take 4 P = P := List.take_of_length_le (by omega)
  have hinv := fun l => inverse_c l hP
  have e1 : (spl L (t * 20 + f * 5) (N t' :: P)).length = 80 * n := by rw [spl_len (by simp [hPl]; omega), hL]
  have g1 : t * 20 + f * 5 + 5 ≤ 80 * n := by omega
  have g2 : t' * 20 + f' * 5 + 5 ≤ 80 * n := by omega
  have hw1 : wrN L (t * 20 + f * 5) (N t' :: P) = spl L (t * 20 + f * 5) (N t' :: P) := wrN_spl (by simp [hPl]; omega)
  have hw2 : wrN (spl L (t * 20 + f * 5) (N t' :: P)) (t' * 20 + f' * 5) (N t :: P) = joinF L t f t' f' P := wrN_spl (by simp [hPl]; omega)
  have k1 : (f : Int) < 4 := by omega
  have k2 : (f' : Int) < 4 := by omega
  have k3 : (t : Int) < 4 * (n : Int) := by omega
  have k4 : (t' : Int) < 4 * (n : Int) := by omega
  have hwz : wrN [AV.int .i64 0, AV.int .i64 0, AV.int .i64 0, AV.int .i64 0] 0 P = P := wrN_all (by simp [hPl])
  refine ends_of p177 (by simp [c177]) ?_
  simp [c177, hb, hf, l1, l2, hrl, hL, hPl, hPt, hne, hne.symm, g1, g2, hw1, hw2, k1, k2, k3, k4, h1, h3, hwz, e1, ends_eq (hinv _), hget_old, hset_old, hget_at, hget_at0, List.getElem?_set_ne, List.getElem?_set_self, -getElem?_pos]
  have hm : mup H.length (mup H.length ⟨H.length, [], none⟩ [fb] (lkOf fb (AV.int .i64 t' :: P)) (H.length + 3)) [fb] (lkOf fb (AV.int .i64 t :: P)) (H.length + 3) = ⟨H.length, [fb], none⟩ := by
    simp [mup, lkOf, hPr, addAll, l2, adj, cut, mrg]
  rw [hm]
  refine ⟨by simpa using hPo, by simp [chkFP, apartFP], _, _, gcD_take rfl (by intro b hb hb2; simp at hb2; omega), rfl, ?_, rfl, rfl⟩
  dsimp only
  rw [List.take_left' (by simp)]

end Go.Proofs.Ytocoadpepofbbaa.AM
