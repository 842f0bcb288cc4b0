/-
  THE PACKAGE diag, part 2: the places of all arcs.
-/
import Derived.Test.YtocoadpepofbbaaG12
import Derived.Test.YtocoadpepofbbaaG11
set_option linter.unusedVariables false
set_option linter.unusedSimpArgs false
set_option maxRecDepth 10000
namespace Go.Proofs.Ytocoadpepofbbaa.AM
open Go

/-! ### maps as lists -/
section
variable {K V : Type} [DecidableEq K]
def lookIx : List (K × V) → K → Nat → Option (Nat × V)
  | [], _, _ => none
  | (x, v) :: m, k, i => if x = k then some (i, v) else lookIx m k (i + 1)
def look (m : List (K × V)) (k : K) : Option V := (lookIx m k 0).map (·.2)
def mset (m : List (K × V)) (k : K) (v : V) : List (K × V) :=
  match lookIx m k 0 with
  | some (i, _) => m.set i (k, v)
  | none => m ++ [(k, v)]
theorem aFind_map {ke : K → AV} {ve : V → AV} (hinj : ∀ a b, codeD (ke a) = codeD (ke b) → a = b) (k : K) : ∀ (m : List (K × V)) (i : Nat),
    aFind (codeD (ke k)) (m.map fun q => (ke q.1, ve q.2)) i = (lookIx m k i).map fun q => (q.1, ve q.2)
  | [], i => rfl
  | (x, v) :: m, i => by
    simp only [List.map_cons, aFind, lookIx]
    by_cases hx : x = k
    · subst hx; simp
    · rw [if_neg (fun hc => hx (hinj _ _ hc)), if_neg hx]
      exact aFind_map hinj k m (i + 1)
theorem mput_map {ke : K → AV} {ve : V → AV} (hinj : ∀ a b, codeD (ke a) = codeD (ke b) → a = b) (k : K) (v : V) (m : List (K × V)) :
    mput (ke k) (ve v) (m.map fun q => (ke q.1, ve q.2)) = (mset m k v).map fun q => (ke q.1, ve q.2) := by
  simp only [mput, mset, aFind_map hinj k m 0]
  cases lookIx m k 0 with
  | none => simp
  | some q => simp [List.map_set]
end

/-- A use of an arc, at the end or at the beginning. -/
abbrev Use := (Int × Bool) × (Nat × Nat)
def useK (k : Int × Bool) : AV := .agg [I k.1, .bool k.2]
def useV (v : Nat × Nat) : AV := .agg [I v.1, I v.2]
def useE (m : List Use) : List (AV × AV) := m.map fun q => (useK q.1, useV q.2)
theorem useK_inj (a b : Int × Bool) (h : codeD (useK a) = codeD (useK b)) : a = b := by
  obtain ⟨a1, a2⟩ := a
  obtain ⟨b1, b2⟩ := b
  cases a2 <;> cases b2 <;> simp_all [codeD, useK, code, codeL, code1]
theorem useE_find (m : List Use) (a : Int) (o : Bool) : aFind (codeD (.agg [I a, .bool o])) (useE m) 0 = (lookIx m (a, o) 0).map fun q => (q.1, useV q.2) := aFind_map useK_inj (a, o) m 0
theorem useE_put (m : List Use) (a : Int) (o : Bool) (i p : Nat) : mput (.agg [I a, .bool o]) (.agg [I i, I p]) (useE m) = useE (mset m (a, o) (i, p)) := mput_map (ve := useV) useK_inj (a, o) (i, p) m


/-- One place more. -/
def useP (n : Nat) (x : X) (i : Nat) (m : Option (List Use)) (p : Nat) : Option (List Use) :=
  match m with
  | none => none
  | some m => if (lookIx m (x.arc p, x.out p) 0).isSome ∨ x.arc p < 0 ∨ 2 * (n : Int) ≤ x.arc p then none else some (mset m (x.arc p, x.out p) (i, p))
def usePs (n : Nat) (x : X) (i : Nat) (m : Option (List Use)) (k : Nat) : Option (List Use) := (List.range k).foldl (useP n x i) m
/-- One crossing more. -/
def useX (xs : List X) (m : Option (List Use)) (i : Nat) : Option (List Use) :=
  match xs[i]? with
  | none => m
  | some x => if x.s ≠ 1 ∧ x.s ≠ -1 then none else usePs xs.length x i m 4
def useXs (xs : List X) (k : Nat) : Option (List Use) := (List.range k).foldl (useX xs) (some [])
theorem useP_none (n : Nat) (x : X) (i : Nat) : ∀ l : List Nat, l.foldl (useP n x i) none = none
  | [] => rfl
  | p :: l => useP_none n x i l
theorem useX_none (xs : List X) : ∀ l : List Nat, l.foldl (useX xs) none = none
  | [] => rfl
  | i :: l => by
    have : useX xs none i = none := by
      unfold useX
      split
      · rfl
      · split
        · rfl
        · exact useP_none _ _ _ _
    rw [List.foldl_cons, this]
    exact useX_none xs l
theorem usePs_succ (n : Nat) (x : X) (i : Nat) (m : Option (List Use)) (k : Nat) : usePs n x i m (k + 1) = useP n x i (usePs n x i m k) k := by simp [usePs, List.range_succ]
theorem useXs_succ (xs : List X) (k : Nat) : useXs xs (k + 1) = useX xs (useXs xs k) k := by simp [useXs, List.range_succ]
theorem range_split {k n : Nat} (h : k ≤ n) : List.range n = List.range k ++ (List.range (n - k)).map (k + ·) := by
  rw [← List.range_add]; congr 1; omega
theorem usePs_none {n : Nat} {x : X} {i : Nat} {m : Option (List Use)} {k k' : Nat} (hk : k ≤ k') (h : usePs n x i m k = none) : usePs n x i m k' = none := by
  unfold usePs at *
  rw [range_split hk, List.foldl_append, h]
  exact useP_none _ _ _ _
theorem useXs_none {xs : List X} {k k' : Nat} (hk : k ≤ k') (h : useXs xs k = none) : useXs xs k' = none := by
  unfold useXs at *
  rw [range_split hk, List.foldl_append, h]
  exact useX_none _ _

def endOf (m : List Use) (k : Int × Bool) : Nat × Nat := ((lookIx m k 0).map (·.2)).getD (0, 0)
def arcE (m : List Use) (a : Nat) : E := ⟨(endOf m (a, true)).1, (endOf m (a, true)).2, (endOf m (a, false)).1, (endOf m (a, false)).2⟩
/-- The places of all arcs of a sound diagram. -/
def endsS (xs : List X) (loops : Int) : Option (List E) :=
  if 200 < xs.length ∨ loops < 0 ∨ 200 < loops then none
  else (useXs xs xs.length).map fun m => (List.range (2 * xs.length)).map (arcE m)

/-- The slice and the number of a diagram. -/
def DiaAt (h : List ABlk) (v : AV) (xs : List X) (loops : Int) : Prop :=
  ∃ a c, v = .agg [.sl a xs.length c, I loops] ∧ SlAt h a xs.length 5 (xs.flatMap X.cells)
theorem DiaAt.ext {h l : List ABlk} {v : AV} {xs : List X} {loops : Int} (H : DiaAt h v xs loops) : DiaAt (h ++ l) v xs loops := by
  obtain ⟨a, c, hv, h1⟩ := H
  exact ⟨a, c, hv, h1.ext⟩

/-- The inner loop of ends. -/
theorem c249_l0_wp {Q : ExK} {h : List ABlk} {a : Option Ad} {c : Cap} {xs : List X} {loops : Int} {x : X} {i : Nat} {g : List ABlk} {e : List AV} {m : List Use} {x30 x31 x32 : AV}
    (hx : xs[i]? = some x) (hn : xs.length ≤ 200)
    (e1 : eget e 1 = .ptr (some ⟨h.length, 2, 0⟩)) (e4 : eget e 4 = .map (some (h.length + 1))) (e5 : eget e 5 = I i) (e6 : eget e 6 = .ptr (some ⟨h.length + (g.length + 1 + 1), 5, 0⟩))
    (e30 : eget e 30 = x30) (e31 : eget e 31 = x31) (e32 : eget e 32 = x32) (e46 : eget e 46 = .agg [I x.a0, I x.a1, I x.a2, I x.a3]) (e47 : eget e 47 = I 0)
    (hQ : ∀ e' g' m', usePs xs.length x i (some m) 4 = some m' → eget e' 1 = .ptr (some ⟨h.length, 2, 0⟩) → eget e' 4 = .map (some (h.length + 1)) → eget e' 30 = x30 → eget e' 31 = x31 → eget e' 32 = x32 →
      Q .normal e' (h ++ (.row false [.sl a xs.length c, I loops] :: .map true [some .i64, none] (useE m') :: g')) (M0 h))
    (hR : ∀ e' h', usePs xs.length x i (some m) 4 = none → eget e' 2 = nilSl → eget e' 3 = .bool false → Q .ret e' (h ++ h') (M0 h)) :
    wp PR h.length false (.loop c249_l0) e (h ++ (.row false [.sl a xs.length c, I loops] :: .map true [some .i64, none] (useE m) :: (g ++ [.row false x.cells]))) (M0 h) (onBlk 2 Q) := by
  refine wp_range (n := 4) (fun p e h' mm => eget e 1 = .ptr (some ⟨h.length, 2, 0⟩) ∧ eget e 4 = .map (some (h.length + 1)) ∧ eget e 5 = I i ∧ eget e 6 = .ptr (some ⟨h.length + (g.length + 1 + 1), 5, 0⟩) ∧
    eget e 30 = x30 ∧ eget e 31 = x31 ∧ eget e 32 = x32 ∧ eget e 46 = .agg [I x.a0, I x.a1, I x.a2, I x.a3] ∧ mm = M0 h ∧
    ∃ g' m', usePs xs.length x i (some m) p = some m' ∧ h' = h ++ (.row false [.sl a xs.length c, I loops] :: .map true [some .i64, none] (useE m') :: (g ++ .row false x.cells :: g'))) (by omega) (by simp) ?_ ?_ ?_ e47 ?_ ?_
  · rintro i e h m t v (rfl | rfl | rfl) hJ <;> simpa using hJ
  · rintro i e h m _; rfl
  · exact ⟨e1, e4, e5, e6, e30, e31, e32, e46, rfl, [], m, rfl, rfl⟩
  · rintro p e _ _ hp ⟨e1, e4, e5, e6, e30, e31, e32, e46, rfl, g', m', hm, rfl⟩ e47
    have hc := fun l => out_c l x p
    have hag : [I x.a0, I x.a1, I x.a2, I x.a3][p]? = some (I (x.arc p)) := by
      match p, hp with
      | 0, _ => rfl
      | 1, _ => rfl
      | 2, _ => rfl
      | 3, _ => rfl
    have hp4 : (p : Int) < 4 := by omega
    have hw : IntKind.i64.wrap (2 * (xs.length : Int)) = 2 * xs.length := wrap64 (by omega) (by omega)
    have hs : usePs xs.length x i (some m) (p + 1) = if (lookIx m' (x.arc p, x.out p) 0).isSome ∨ x.arc p < 0 ∨ 2 * (xs.length : Int) ≤ x.arc p then none else some (mset m' (x.arc p, x.out p) (i, p)) := by
      rw [usePs_succ, hm]; rfl
    have bad : usePs xs.length x i (some m) (p + 1) = none → ∀ e' h', eget e' 2 = nilSl → eget e' 3 = .bool false → Q .ret e' (h ++ h') (M0 h) := fun hb e' h' => hR e' h' (usePs_none (by omega) hb)
    rcases hlk : lookIx m' (x.arc p, x.out p) 0 with _ | ⟨j, v⟩
    · by_cases h1 : x.arc p < 0
      · simp [c249_l0, e1, e4, e5, e6, e30, e31, e32, e46, e47, hag, hp, hp4, ends_eq (hc _), shapeK, shapeL, shape1, useE_find, useE_put, hw, hlk, h1, -getElem?_pos]
        exact bad (by rw [hs, hlk]; simp [h1]) _ _ (by simp [nilSl]) (by simp)
      · by_cases h2 : 2 * (xs.length : Int) ≤ x.arc p
        · simp [c249_l0, e1, e4, e5, e6, e30, e31, e32, e46, e47, hag, hp, hp4, ends_eq (hc _), shapeK, shapeL, shape1, useE_find, useE_put, hw, hlk, h1, h2, -getElem?_pos]
          exact bad (by rw [hs, hlk]; simp [h2]) _ _ (by simp [nilSl]) (by simp)
        · simp [c249_l0, e1, e4, e5, e6, e30, e31, e32, e46, e47, hag, hp, hp4, ends_eq (hc _), shapeK, shapeL, shape1, useE_find, useE_put, hw, hlk, h1, h2, -getElem?_pos]
          rw [hs, hlk]
          simp [h1, h2]
    · simp [e1, e4, e5, e6, e30, e31, e32, e46, e47, hag, hp, hp4, ends_eq (hc _), shapeK, shapeL, shape1, useE_find, useE_put, useV, hw, hlk, -getElem?_pos]
      exact bad (by rw [hs, hlk]; simp) _ _ (by simp [nilSl]) (by simp)
  · rintro e h m ⟨e1, e4, e5, e6, e30, e31, e32, e46, rfl, g', m', hm, rfl⟩
    exact hQ _ _ _ hm e1 e4 e30 e31 e32

/-- The loop over the crossings. -/
theorem c249_l1_wp {Q : ExK} {h : List ABlk} {a : Option Ad} {c : Cap} {xs : List X} {loops : Int} {e : List AV} (hA : SlAt h a xs.length 5 (xs.flatMap X.cells)) (hn : xs.length ≤ 200)
    (e1 : eget e 1 = .ptr (some ⟨h.length, 2, 0⟩)) (e4 : eget e 4 = .map (some (h.length + 1))) (e30 : eget e 30 = .sl a xs.length c) (e31 : eget e 31 = I xs.length) (e32 : eget e 32 = I 0)
    (hQ : ∀ e' g' m', useXs xs xs.length = some m' → eget e' 1 = .ptr (some ⟨h.length, 2, 0⟩) → eget e' 4 = .map (some (h.length + 1)) →
      Q .normal e' (h ++ (.row false [.sl a xs.length c, I loops] :: .map true [some .i64, none] (useE m') :: g')) (M0 h))
    (hR : ∀ e' h', useXs xs xs.length = none → eget e' 2 = nilSl → eget e' 3 = .bool false → Q .ret e' (h ++ h') (M0 h)) :
    wp PR h.length false (.loop c249_l1) e (h ++ [.row false [.sl a xs.length c, I loops], .map true [some .i64, none] []]) (M0 h) (onBlk 0 Q) := by
  refine wp_range (n := xs.length) (fun i e h' mm => eget e 1 = .ptr (some ⟨h.length, 2, 0⟩) ∧ eget e 4 = .map (some (h.length + 1)) ∧
    eget e 30 = .sl a xs.length c ∧ eget e 31 = I xs.length ∧ mm = M0 h ∧
    ∃ g' m', useXs xs i = some m' ∧ h' = h ++ (.row false [.sl a xs.length c, I loops] :: .map true [some .i64, none] (useE m') :: g')) (by omega) (by simp) ?_ ?_ ?_ e32 ?_ ?_
  · rintro i e h m t v (rfl | rfl | rfl) hJ <;> simpa using hJ
  · rintro i e h m ⟨_, _, _, e31, _⟩; exact e31
  · exact ⟨e1, e4, e30, e31, rfl, [], [], rfl, rfl⟩
  · rintro i e _ _ hi ⟨e1, e4, e30, e31, rfl, g, m, hm, rfl⟩ e32
    obtain ⟨b, ro, rfl, hb', hb, lb⟩ := hA.get hi
    obtain ⟨x, hx⟩ : ∃ x, xs[i]? = some x := ⟨xs[i], List.getElem?_eq_getElem hi⟩
    have hT : List.take 5 (List.drop (i * 5) (xs.flatMap X.cells)) = x.cells := flatMap_at (k := 5) (fun _ => rfl) hx
    have e3 : i * 5 + 5 ≤ xs.length * 5 := by omega
    have hs : useXs xs (i + 1) = if x.s ≠ 1 ∧ x.s ≠ -1 then none else usePs xs.length x i (some m) 4 := by
      rw [useXs_succ, hm]; simp only [useX, hx]
    have hwr : wrN [AV.int .i64 0, AV.int .i64 0, AV.int .i64 0, AV.int .i64 0, AV.int .i64 0] 0 x.cells = x.cells := wrN_all rfl
    have bad : useXs xs (i + 1) = none → ∀ e' h', eget e' 2 = nilSl → eget e' 3 = .bool false → Q .ret e' (h ++ h') (M0 h) := fun hb e' h' => hR e' h' (useXs_none (by omega) hb)
    by_cases h1 : x.s = 1 ∨ x.s = -1
    · have hs1 : useXs xs (i + 1) = usePs xs.length x i (some m) 4 := by
        rw [hs, if_neg]; rintro ⟨u, v⟩; rcases h1 with h1 | h1
        · exact u h1
        · exact v h1
      have main : ∀ e', eget e' 1 = .ptr (some ⟨h.length, 2, 0⟩) → eget e' 4 = .map (some (h.length + 1)) → eget e' 5 = I i → eget e' 6 = .ptr (some ⟨h.length + (g.length + 1 + 1), 5, 0⟩) →
          eget e' 30 = .sl (some ⟨b, xs.length * 5, 0⟩) xs.length c → eget e' 31 = I xs.length → eget e' 32 = I i → eget e' 46 = .agg [I x.a0, I x.a1, I x.a2, I x.a3] → eget e' 47 = I 0 →
          wp PR h.length false (.loop c249_l0) e' (h ++ (.row false [.sl (some ⟨b, xs.length * 5, 0⟩) xs.length c, I loops] :: .map true [some .i64, none] (useE m) :: (g ++ [.row false x.cells]))) (M0 h)
            (onBlk 2 (onBlk 1 (rgQ (fun i e h' mm => eget e 1 = .ptr (some ⟨h.length, 2, 0⟩) ∧ eget e 4 = .map (some (h.length + 1)) ∧
    eget e 30 = .sl (some ⟨b, xs.length * 5, 0⟩) xs.length c ∧ eget e 31 = I xs.length ∧ mm = M0 h ∧
    ∃ g' m', useXs xs i = some m' ∧ h' = h ++ (.row false [.sl (some ⟨b, xs.length * 5, 0⟩) xs.length c, I loops] :: .map true [some .i64, none] (useE m') :: g')) 32 0 i Q))) := by
        intro e' f1 f4 f5 f6 f30 f31 f32 f46 f47
        refine c249_l0_wp hx hn f1 f4 f5 f6 f30 f31 f32 f46 f47 ?_ ?_
        · intro e'' g' m' hu k1 k4 k30 k31 k32
          simp [k1, k4, k30, k31, k32, hs1, hu]
        · intro e'' h' hu k2 k3
          simp only [onBlk_ret, rgQ_ret]
          exact bad (by rw [hs1, hu]) _ _ k2 k3
      rcases h1 with h1 | h1
      · simp [e1, e4, e30, e31, e32, hi, hb', hb, lb, e3, hT, hwr, h1, X.cells_one, -getElem?_pos]
        refine main _ ?_ ?_ ?_ ?_ ?_ ?_ ?_ ?_ ?_ <;> simp [e1, e4, e30, e31, e32]
      · simp [e1, e4, e30, e31, e32, hi, hb', hb, lb, e3, hT, hwr, h1, X.cells_one, -getElem?_pos]
        refine main _ ?_ ?_ ?_ ?_ ?_ ?_ ?_ ?_ ?_ <;> simp [e1, e4, e30, e31, e32]
    · have h2 : x.s ≠ 1 := fun hh => h1 (.inl hh)
      have h3 : x.s ≠ -1 := fun hh => h1 (.inr hh)
      simp [e1, e4, e30, e31, e32, hi, hb', hb, lb, e3, hT, hwr, h2, h3, X.cells_one, -getElem?_pos]
      refine bad (by rw [hs, if_pos ⟨h2, h3⟩]) _ _ ?_ ?_ <;> simp [nilSl]
  · rintro e h m ⟨e1, e4, e30, e31, rfl, g', m', hm, rfl⟩
    exact hQ _ _ _ hm e1 e4

theorem kLk_use {r : Nat} {h : List ABlk} {k : OpK} (m : List Use) (key : Int × Bool) :
    kLk (some r) h k false (.agg [.int .i64 0, .int .i64 0]) ((lookIx m key 0).map fun q => (q.1, useV q.2)) = k (.agg [I (endOf m key).1, I (endOf m key).2]) h [] none (some [r]) := by
  unfold endOf
  cases lookIx m key 0 with
  | none => rfl
  | some q => rfl

/-- The loop that fills the list of arcs. -/
theorem c249_l2_wp {Q : ExK} {h : List ABlk} {B1 : ABlk} {M : Nat} {g : List ABlk} {m : List Use} {e : List AV} (hn : M ≤ 400)
    (e4 : eget e 4 = .map (some (h.length + 1))) (e12 : eget e 12 = .sl (some ⟨h.length + (g.length + 1 + 1), M * 4, 0⟩) M (.k M)) (e88 : eget e 88 = I M) (e89 : eget e 89 = I 0)
    (hQ : ∀ e', eget e' 12 = .sl (some ⟨h.length + (g.length + 1 + 1), M * 4, 0⟩) M (.k M) →
      Q .normal e' (h ++ (B1 :: .map true [some .i64, none] (useE m) :: (g ++ [.row false ((List.range M).flatMap fun a => (arcE m a).cells)]))) (M0 h)) :
    wp PR h.length false (.loop c249_l2) e (h ++ (B1 :: .map true [some .i64, none] (useE m) :: (g ++ [.row false (List.replicate M [I 0, I 0, I 0, I 0]).flatten]))) (M0 h) (onBlk 4 Q) := by
  refine wp_range (n := M) (fun i e h' mm => eget e 4 = .map (some (h.length + 1)) ∧ eget e 12 = .sl (some ⟨h.length + (g.length + 1 + 1), M * 4, 0⟩) M (.k M) ∧ eget e 88 = I M ∧ mm = M0 h ∧
    h' = h ++ (B1 :: .map true [some .i64, none] (useE m) :: (g ++ [.row false (fillG M i (fun a => (arcE m a).cells) [I 0, I 0, I 0, I 0])]))) (by omega) (by simp) ?_ ?_ ?_ e89 ?_ ?_
  · rintro i e h m t v (rfl | rfl | rfl) hJ <;> simpa using hJ
  · rintro i e h m ⟨_, _, e88, _⟩; exact e88
  · exact ⟨e4, e12, e88, rfl, by simp⟩
  · rintro i e _ _ hi ⟨e4, e12, e88, rfl, rfl⟩ e89
    have hl : (fillG M i (fun a => (arcE m a).cells) [I 0, I 0, I 0, I 0]).length = M * 4 := fillG_len (fun _ => rfl) rfl (by omega)
    have hs := fillG_set (M := M) (i := i) (k := 4) (f := fun a => (arcE m a).cells) (z := [I 0, I 0, I 0, I 0]) (fun _ => rfl) rfl hi
    have e3 : i * 4 + 4 ≤ M * 4 := by omega
    simp [e4, e12, e88, e89, hi, shapeK, shapeL, shape1, useE_find, kLk_use, hl, e3]
    rw [← hs]
    rfl
  · rintro e h m ⟨e4, e12, e88, rfl, rfl⟩
    simpa using hQ _ e12

/-- What ends returns. -/
def endsR (h : List ABlk) : Option (List E) → Ret
  | none => ⟨.tup [nilSl, .bool false], h, [], none⟩
  | some es => ⟨.tup [.sl (some ⟨h.length, es.length * 4, 0⟩) es.length (.k es.length), .bool true], h ++ [.row false (es.flatMap E.cells)], [], none⟩

theorem ends_c {h : List ABlk} {v : AV} {xs : List X} {loops : Int} (H : DiaAt h v xs loops) : Ends PR (.f 249) [v] h (endsR h (endsS xs loops)) := by
  obtain ⟨a, c, rfl, hA⟩ := H
  refine ends_of p249 (by simp [c249]) ?_
  by_cases h1 : 200 < xs.length
  · have h1' : (200 : Int) < xs.length := by omega
    simp [c249, h1, h1', endsS, endsR, gc_none, nilSl]
  · have h1' : ¬ (200 : Int) < xs.length := by omega
    by_cases h2 : loops < 0
    · simp [c249, h1', h1, h2, endsS, endsR, gc_none, nilSl]
    · by_cases h3 : 200 < loops
      · simp [c249, h1', h1, h2, h3, endsS, endsR, gc_none, nilSl]
      · simp [c249, h1', h1, h2, h3]
        refine c249_l1_wp hA (by omega) rfl rfl rfl rfl rfl ?_ ?_
        · intro e g m hm f1 f4
          have w1 : IntKind.i64.wrap (2 * (xs.length : Int)) = 2 * xs.length := wrap64 (by omega) (by omega)
          have w2 : (32 : Int) * (2 * xs.length) ≤ 281474976710656 := by omega
          have w3 : (2 * (xs.length : Int)).toNat = 2 * xs.length := by omega
          have w4 : (0 : Int) ≤ 2 * xs.length := by omega
          simp [f1, f4, w1, w2, w3, w4]
          refine c249_l2_wp (M := 2 * xs.length) (by omega) ?_ ?_ ?_ ?_ ?_
          · simp [f4]
          · simp
          · simp
          · simp
          · intro e f12
            have hE : endsS xs loops = some ((List.range (2 * xs.length)).map (arcE m)) := by simp [endsS, h1, h2, h3, hm]
            simp [f12, hE, endsR]
            rw [List.flatMap_map]
            refine gc_row (j := g.length + 1 + 1) (ro := false) ?_ ?_ (refsL_flat (fun a => E.cells_refs _) _) ?_ <;> simp
        · intro e h' hm f2 f3
          simp [f2, f3, endsS, h1, h2, h3, hm, endsR, gc_none, nilSl]

end Go.Proofs.Ytocoadpepofbbaa.AM

/-
  THE PACKAGE diag, part 3: the pieces of a diagram.
-/
set_option linter.unusedVariables false
set_option linter.unusedSimpArgs false
set_option maxRecDepth 10000
namespace Go.Proofs.Ytocoadpepofbbaa.AM
open Go

abbrev N (n : Nat) : AV := I (n : Int)

/-- The other place of each place, and that the code finds it. -/
def OthOk (v : AV) (xs : List X) (loops : Int) (es : List E) (oth : Nat → Nat → Nat × Nat) : Prop :=
  ∀ c p, c < xs.length → p < 4 → (oth c p).1 < xs.length ∧ (oth c p).2 < 4 ∧ ∀ h, DP h v xs loops es → Ends PR (.f 273) [v, .agg [N c, N p]] h ⟨.agg [N (oth c p).1, N (oth c p).2], h, [], none⟩

def pStep (oth : Nat → Nat → Nat × Nat) (nn : Int) (q : Nat) (s : List Int × List Nat) (p : Nat) : List Int × List Nat :=
  if (s.1[(oth q p).1]?).getD 0 < 0 then (s.1.set (oth q p).1 nn, s.2 ++ [(oth q p).1]) else s
def pFold (oth : Nat → Nat → Nat × Nat) (nn : Int) (q : Nat) (s : List Int × List Nat) (k : Nat) : List Int × List Nat := (List.range k).foldl (pStep oth nn q) s
theorem pFold_succ (oth : Nat → Nat → Nat × Nat) (nn : Int) (q : Nat) (s : List Int × List Nat) (k : Nat) : pFold oth nn q s (k + 1) = pStep oth nn q (pFold oth nn q s k) k := by simp [pFold, List.range_succ]
def pieceGo (oth : Nat → Nat → Nat × Nat) (nn : Int) : Nat → List Int × List Nat → Nat → List Int
  | 0, s, _ => s.1
  | f + 1, s, k => match s.2[k]? with
    | none => s.1
    | some q => pieceGo oth nn f (pFold oth nn q s 4) (k + 1)
def pieceStep (oth : Nat → Nat → Nat × Nat) (M : Nat) (s : List Int × Int) (i : Nat) : List Int × Int :=
  if 0 ≤ (s.1[i]?).getD 0 then s else (pieceGo oth s.2 (M + 1) (s.1.set i s.2, [i]) 0, s.2 + 1)
def piecesS (oth : Nat → Nat → Nat × Nat) (M i : Nat) : List Int × Int := (List.range i).foldl (pieceStep oth M) (List.replicate M (-1), 0)
theorem piecesS_succ (oth : Nat → Nat → Nat × Nat) (M i : Nat) : piecesS oth M (i + 1) = pieceStep oth M (piecesS oth M i) i := by simp [piecesS, List.range_succ]

/-- The state of the search: numbers of the crossings, and the queue. -/
structure PS (M C : Nat) (s : List Int × List Nat) : Prop where
  len : s.1.length = M
  lt : ∀ q ∈ s.2, q < M
  cnt : negs s.1 + s.2.length ≤ C
theorem pStep_ps {oth : Nat → Nat → Nat × Nat} {nn : Int} {q M C p : Nat} {s : List Int × List Nat} (h0 : 0 ≤ nn) (ho : (oth q p).1 < M) (H : PS M C s) : PS M C (pStep oth nn q s p) := by
  unfold pStep
  split
  · rename_i hx
    obtain ⟨x, hx'⟩ : ∃ x, s.1[(oth q p).1]? = some x := ⟨_, List.getElem?_eq_getElem (by rw [H.len]; exact ho)⟩
    rw [hx'] at hx
    have := negs_set hx' (by simpa using hx) h0
    refine ⟨by simpa using H.len, ?_, ?_⟩
    · intro q' hq'
      rcases List.mem_append.mp hq' with hq' | hq'
      · exact H.lt _ hq'
      · simp at hq'; omega
    · have := H.cnt
      simp; omega
  · exact H
theorem pFold_ps {oth : Nat → Nat → Nat × Nat} {nn : Int} {q M C : Nat} {s : List Int × List Nat} (h0 : 0 ≤ nn) (ho : ∀ p, p < 4 → (oth q p).1 < M) (H : PS M C s) : ∀ k, k ≤ 4 → PS M C (pFold oth nn q s k)
  | 0, _ => H
  | k + 1, hk => by rw [pFold_succ]; exact pStep_ps h0 (ho k (by omega)) (pFold_ps h0 ho H k (by omega))
theorem pStep_get {oth : Nat → Nat → Nat × Nat} {nn : Int} {q p k q' : Nat} {s : List Int × List Nat} (h : s.2[k]? = some q') : (pStep oth nn q s p).2[k]? = some q' := by
  unfold pStep
  split
  · rw [List.getElem?_append_left (lt_get h)]; exact h
  · exact h
theorem pFold_get {oth : Nat → Nat → Nat × Nat} {nn : Int} {q k q' : Nat} {s : List Int × List Nat} (h : s.2[k]? = some q') : ∀ j, (pFold oth nn q s j).2[k]? = some q'
  | 0 => h
  | j + 1 => by rw [pFold_succ]; exact pStep_get (pFold_get h j)
theorem pieceGo_len {oth : Nat → Nat → Nat × Nat} {nn : Int} : ∀ (f : Nat) (s : List Int × List Nat) (k : Nat), (pieceGo oth nn f s k).length = s.1.length
  | 0, _, _ => rfl
  | f + 1, s, k => by
    have hs : ∀ q s j, (pFold oth nn q s j).1.length = s.1.length := by
      intro q s j
      induction j with
      | zero => rfl
      | succ j ih => rw [pFold_succ, pStep]; split <;> simp [ih]
    simp only [pieceGo]
    split
    · rfl
    · rw [pieceGo_len f]; exact hs _ _ _
theorem piecesS_len (oth : Nat → Nat → Nat × Nat) (M : Nat) : ∀ i, (piecesS oth M i).1.length = M
  | 0 => by simp [piecesS]
  | i + 1 => by
    rw [piecesS_succ, pieceStep]
    split
    · exact piecesS_len oth M i
    · rw [pieceGo_len]; simpa using piecesS_len oth M i
theorem piecesS_n (oth : Nat → Nat → Nat × Nat) (M : Nat) : ∀ i, 0 ≤ (piecesS oth M i).2 ∧ (piecesS oth M i).2 ≤ i
  | 0 => by simp [piecesS]
  | i + 1 => by
    have := piecesS_n oth M i
    rw [piecesS_succ, pieceStep]
    split
    · omega
    · dsimp only; omega

theorem c250_l0_wp {Q : ExK} {M : Nat} {h : List ABlk} {e : List AV} {p0 : AV} (hM : M ≤ 1000)
    (e0 : eget e 0 = p0) (e4 : eget e 4 = SL h.length M) (e20 : eget e 20 = I M) (e21 : eget e 21 = I 0)
    (hQ : ∀ e', eget e' 0 = p0 → eget e' 4 = SL h.length M → Q .normal e' (h ++ [.row false (List.replicate M (I (-1)))]) (M0 h)) :
    wp PR h.length false (.loop c250_l0) e (h ++ [.row false (List.replicate M (I 0))]) (M0 h) (onBlk 0 Q) := by
  refine wp_range (n := M) (fun i e h' m => eget e 0 = p0 ∧ eget e 4 = SL h.length M ∧ eget e 20 = I M ∧
    h' = h ++ [.row false (fillS M i (I (-1)) (I 0))] ∧ m = M0 h) (by omega) (by simp) ?_ ?_ (by simp [e0, e4, e20]) e21 ?_ ?_
  · rintro i e h m t v (rfl | rfl | rfl) hJ <;> simpa using hJ
  · rintro i e h m ⟨e0, e4, e16, rfl, rfl⟩; exact e16
  · rintro i e _ _ hi ⟨e0, e4, e16, rfl, rfl⟩ e17
    have hl : (fillS M i (I (-1)) (I 0)).length = M := fillS_len (by omega)
    simp [e0, e4, e16, e17, hi, fillS_set hi, hl]; omega
  · rintro e h m ⟨e0, e4, e16, rfl, rfl⟩
    simpa using hQ _ e0 e4

/-- The heap in the search for a piece. -/
def pH (h : List ABlk) (g : List ABlk) (s : List Int × List Nat) (g' : List ABlk) : List ABlk := h ++ (.row false (s.1.map I) :: (g ++ (.row false (s.2.map N) :: g')))
abbrev QS (h g : List ABlk) (n : Nat) (c : Cap) : AV := .sl (some ⟨h.length + (g.length + 1), n, 0⟩) n c

/-- The queue's slice, and the heap. -/
def QI (h g : List ABlk) (s : List Int × List Nat) (v8 : AV) (h' : List ABlk) : Prop := ∃ g' c, (c = .u 1 ∨ c = .k s.2.length) ∧ v8 = QS h g s.2.length c ∧ h' = pH h g s g'

theorem c250_l1_wp {Q : ExK} {h : List ABlk} {v : AV} {xs : List X} {loops : Int} {es : List E} (H : DP h v xs loops es) {oth : Nat → Nat → Nat × Nat} (ho : OthOk v xs loops es oth) (hM : xs.length ≤ 1000)
    {e : List AV} {nn : Int} (h0 : 0 ≤ nn) {s : List Int × List Nat} {C k q : Nat} (hC : C ≤ 2000) (hs : PS xs.length C s) (hq : s.2[k]? = some q) {g h1 : List ABlk} {x7 x29 x30 : AV}
    (e0 : eget e 0 = v) (e4 : eget e 4 = SL h.length xs.length) (e6 : eget e 6 = I nn) (e7 : eget e 7 = x7) (e9 : eget e 9 = N k) (e29 : eget e 29 = x29) (e30 : eget e 30 = x30) (e50 : eget e 50 = I 0)
    (e8 : QI h g s (eget e 8) h1)
    (hQ : ∀ e' h', eget e' 0 = v → eget e' 4 = SL h.length xs.length → eget e' 6 = I nn → eget e' 7 = x7 → eget e' 9 = N k →
      eget e' 29 = x29 → eget e' 30 = x30 → QI h g (pFold oth nn q s 4) (eget e' 8) h' → Q .normal e' h' (M0 h)) :
    wp PR h.length false (.loop c250_l1) e h1 (M0 h) (onBlk 6 Q) := by
  refine wp_range (n := 4) (fun p e h' m => eget e 0 = v ∧ eget e 4 = SL h.length xs.length ∧ eget e 6 = I nn ∧ eget e 7 = x7 ∧ eget e 9 = N k ∧ eget e 29 = x29 ∧ eget e 30 = x30 ∧ m = M0 h ∧
    QI h g (pFold oth nn q s p) (eget e 8) h') (by omega) (by simp) ?_ ?_ ?_ e50 ?_ ?_
  · rintro i e h m t v (rfl | rfl | rfl) hJ <;> simpa using hJ
  · rintro i e h m _; rfl
  · exact ⟨e0, e4, e6, e7, e9, e29, e30, rfl, e8⟩
  · rintro p e _ _ hp ⟨e0, e4, e6, e7, e9, e29, e30, rfl, g', c', hc', e8, rfl⟩ e50
    have hq' := pFold_get (oth := oth) (nn := nn) (q := q) hq p
    have hqM : q < xs.length := hs.lt q (List.mem_of_getElem? hq)
    have hs' := pFold_ps (oth := oth) (q := q) h0 (fun p hp => (ho q p hqM hp).1) hs p (by omega)
    have hsucc := pFold_succ oth nn q s p
    obtain ⟨S, hS⟩ : ∃ S, S = pFold oth nn q s p := ⟨_, rfl⟩
    rw [← hS] at hq' hs' hc' e8 hsucc ⊢
    obtain ⟨o1, o2, o3⟩ := ho q p hqM hp
    have hcall := fun l => o3 (h ++ l) H.ext
    obtain ⟨x, hx⟩ : ∃ x, S.1[(oth q p).1]? = some x := ⟨_, List.getElem?_eq_getElem (by rw [hs'.len]; exact o1)⟩
    have hkl := lt_get hq'
    have hcnt := hs'.cnt
    have hS1 := hs'.len
    have hb : (S.2.length + 1) * 8 ≤ 140737488355328 := by omega
    have o1' : (oth q p).1 + 1 ≤ xs.length := o1
    by_cases hx0 : x < 0
    · have hst : pStep oth nn q S p = (S.1.set (oth q p).1 nn, S.2 ++ [(oth q p).1]) := by simp [pStep, hx, hx0]
      have hnl : ¬ (S.2.length + 1 ≤ S.2.length) := by omega
      have ht : List.take S.2.length (List.map N S.2) = List.map N S.2 := List.take_of_length_le (by simp)
      rcases hc' with rfl | rfl <;>
      · simp [pH, e0, e4, e6, e7, e8, e9, e29, e30, e50, hkl, hq', ends_eq (hcall _), hS1, hx, hx0, o1, o1', hb, hsucc, hst, hnl, ht, -getElem?_pos]
        refine ⟨g' ++ [.row false [N (oth q p).1]], .u 1, .inl rfl, by simp, by simp [pH, List.map_set]⟩
    · have hst : pStep oth nn q S p = S := by simp [pStep, hx, hx0]
      simp [pH, e0, e4, e6, e7, e8, e9, e29, e30, e50, hkl, hq', ends_eq (hcall _), hS1, hx, hx0, o1, hsucc, hst, -getElem?_pos]
      exact ⟨g', c', hc', rfl, rfl⟩
  · rintro e h m ⟨e0, e4, e6, e7, e9, e29, e30, rfl, e8⟩
    exact hQ _ _ e0 e4 e6 e7 e9 e29 e30 e8

theorem c250_l2_wp {Q : ExK} {h : List ABlk} {v : AV} {xs : List X} {loops : Int} {es : List E} (H : DP h v xs loops es) {oth : Nat → Nat → Nat × Nat} (ho : OthOk v xs loops es oth) (hM : xs.length ≤ 1000)
    {e : List AV} {nn : Int} (h0 : 0 ≤ nn) {s : List Int × List Nat} {C f : Nat} (hC : C ≤ 2000) (hs : PS xs.length C s) (hf : C < f) {g h1 : List ABlk} {x7 x29 x30 : AV}
    (e0 : eget e 0 = v) (e4 : eget e 4 = SL h.length xs.length) (e6 : eget e 6 = I nn) (e7 : eget e 7 = x7) (e9 : eget e 9 = N 0) (e29 : eget e 29 = x29) (e30 : eget e 30 = x30)
    (e8 : QI h g s (eget e 8) h1)
    (hQ : ∀ e' g', eget e' 0 = v → eget e' 4 = SL h.length xs.length → eget e' 6 = I nn → eget e' 7 = x7 →
      eget e' 29 = x29 → eget e' 30 = x30 → Q .normal e' (h ++ .row false ((pieceGo oth nn f s 0).map I) :: g') (M0 h)) :
    wp PR h.length false (.loop c250_l2) e h1 (M0 h) (onBlk 4 Q) := by
  generalize hR : pieceGo oth nn f s 0 = R at hQ
  refine wp_loopN (α := Nat × (List Int × List Nat) × Nat) (fun a e h' m => eget e 0 = v ∧ eget e 4 = SL h.length xs.length ∧ eget e 6 = I nn ∧ eget e 7 = x7 ∧ eget e 29 = x29 ∧ eget e 30 = x30 ∧
    eget e 9 = N a.2.2 ∧ m = M0 h ∧ QI h g a.2.1 (eget e 8) h' ∧ PS xs.length C a.2.1 ∧ a.2.2 ≤ a.2.1.2.length ∧ C < a.1 + a.2.2 ∧ pieceGo oth nn a.1 a.2.1 a.2.2 = R)
    (fun a => a.1) (fun a => (a.1 - 1, pFold oth nn ((a.2.1.2[a.2.2]?).getD 0) a.2.1 4, a.2.2 + 1)) ?_ (a := (f, s, 0)) ?_
  · rintro ⟨f, S, k⟩ e _ _ ⟨e0, e4, e6, e7, e29, e30, e9, rfl, e8, hS, hk, hf, hw⟩
    dsimp only at e8 e9 hS hk hf hw
    have hcnt := hS.cnt
    have e8' := e8
    obtain ⟨g', c', hc', e8, rfl⟩ := e8
    obtain ⟨f, rfl⟩ : ∃ g, f = g + 1 := ⟨f - 1, by omega⟩
    by_cases hkl : k < S.2.length
    · obtain ⟨q, hq⟩ : ∃ q, S.2[k]? = some q := ⟨_, List.getElem?_eq_getElem hkl⟩
      simp only [pieceGo, hq] at hw
      simp [c250_l2, e0, e4, e6, e7, e8, e9, e29, e30, hkl, hq, -getElem?_pos]
      refine c250_l1_wp H ho hM h0 hC hS hq (x7 := x7) (x29 := x29) (x30 := x30) ?_ ?_ ?_ ?_ ?_ ?_ ?_ ?_ (g := g) ?_ ?_
      · simp [e0]
      · simp [e4]
      · simp [e6]
      · simp [e7]
      · simp [e9]
      · simp [e29]
      · simp [e30]
      · simp
      · simp only [eget_ne _ _ _ _ (show ¬ (8 : Nat) = 50 by omega), eget_ne _ _ _ _ (show ¬ (8 : Nat) = 47 by omega), eget_ne _ _ _ _ (show ¬ (8 : Nat) = 46 by omega), eget_ne _ _ _ _ (show ¬ (8 : Nat) = 45 by omega), eget_ne _ _ _ _ (show ¬ (8 : Nat) = 44 by omega)]
        exact e8'
      · intro e' h' k0 k4 k6 k7 k9 k29 k30 k8
        have hps := pFold_ps (oth := oth) (q := q) h0 (fun p hp => (ho q p (hS.lt q (List.mem_of_getElem? hq)) hp).1) hS 4 (by omega)
        have hw2 : IntKind.i64.wrap ((k : Int) + 1) = ((k + 1 : Nat) : Int) := by rw [wrap64 (by omega) (by omega)]; rfl
        have hlen : k + 1 ≤ (pFold oth nn q S 4).2.length := lt_get (pFold_get (oth := oth) (nn := nn) (q := q) hq 4)
        simp [k0, k4, k6, k7, k9, k29, k30, hw2, hq, -getElem?_pos]
        exact ⟨k8, hps, hlen, by omega, hw⟩
    · have hnone : S.2[k]? = none := List.getElem?_eq_none (by omega)
      simp only [pieceGo, hnone] at hw
      have hkl' : ¬ ((k : Int) < S.2.length) := by omega
      simp [c250_l2, e0, e4, e6, e7, e8, e9, e29, e30, hkl', hkl]
      rw [pH, hw]
      refine hQ _ _ ?_ ?_ ?_ ?_ ?_ ?_ <;> simp [e0, e4, e6, e7, e29, e30]
  · exact ⟨e0, e4, e6, e7, e29, e30, e9, rfl, e8, hs, Nat.zero_le _, by simpa using hf, hR⟩

theorem c250_l3_wp {Q : ExK} {h : List ABlk} {v : AV} {xs : List X} {loops : Int} {es : List E} (H : DP h v xs loops es) {oth : Nat → Nat → Nat × Nat} (ho : OthOk v xs loops es oth) (hM : xs.length ≤ 1000)
    {e : List AV} (e0 : eget e 0 = v) (e4 : eget e 4 = SL h.length xs.length) (e6 : eget e 6 = I 0) (e29 : eget e 29 = I xs.length) (e30 : eget e 30 = I 0)
    (hQ : ∀ e' g, eget e' 4 = SL h.length xs.length → eget e' 6 = I (piecesS oth xs.length xs.length).2 →
      Q .normal e' (h ++ .row false ((piecesS oth xs.length xs.length).1.map I) :: g) (M0 h)) :
    wp PR h.length false (.loop c250_l3) e (h ++ [.row false (List.replicate xs.length (I (-1)))]) (M0 h) (onBlk 2 Q) := by
  refine wp_range (n := xs.length) (fun i e h' m => eget e 0 = v ∧ eget e 4 = SL h.length xs.length ∧ eget e 6 = I (piecesS oth xs.length i).2 ∧ eget e 29 = I xs.length ∧ m = M0 h ∧
    ∃ g, h' = h ++ .row false ((piecesS oth xs.length i).1.map I) :: g) (by omega) (by simp) ?_ ?_ ?_ e30 ?_ ?_
  · rintro i e h m t v (rfl | rfl | rfl) hJ <;> simpa using hJ
  · rintro i e h m ⟨e0, e4, e6, e29, _⟩; exact e29
  · exact ⟨e0, e4, e6, e29, rfl, [], by simp [piecesS]⟩
  · rintro i e _ _ hi ⟨e0, e4, e6, e29, rfl, g, rfl⟩ e30
    have hl := piecesS_len oth xs.length i
    have hn2 := piecesS_n oth xs.length i
    have hsucc := piecesS_succ oth xs.length i
    obtain ⟨S, hS⟩ : ∃ S, S = piecesS oth xs.length i := ⟨_, rfl⟩
    rw [← hS] at hl hn2 e6 hsucc ⊢
    obtain ⟨x, hx⟩ : ∃ x, S.1[i]? = some x := ⟨_, List.getElem?_eq_getElem (by omega)⟩
    have hw : IntKind.i64.wrap (S.2 + 1) = S.2 + 1 := wrap64 (by omega) (by omega)
    have hi' : i + 1 ≤ xs.length := hi
    by_cases h0 : 0 ≤ x
    · have hst : pieceStep oth xs.length S i = S := by simp [pieceStep, hx, h0]
      simp [e0, e4, e6, e29, e30, hi, hl, hx, h0, hsucc, hst, -getElem?_pos]
    · have hst : pieceStep oth xs.length S i = (pieceGo oth S.2 (xs.length + 1) (S.1.set i S.2, [i]) 0, S.2 + 1) := by simp [pieceStep, hx, h0]
      simp [e0, e4, e6, e29, e30, hi, hi', hl, hx, h0, hsucc, hst, -getElem?_pos]
      have hneg := negs_set hx (by omega) hn2.1
      have hnl := negs_le S.1
      refine c250_l2_wp H ho hM hn2.1 (s := (S.1.set i S.2, [i])) (C := xs.length) (f := xs.length + 1) (g := g) (x7 := N i) (x29 := I xs.length) (x30 := N i) (by omega) ⟨by simpa using hl, by simp [hi], by simp; omega⟩ (by omega) ?_ ?_ ?_ ?_ ?_ ?_ ?_ ?_ ?_
      · simp [e0]
      · simp [e4]
      · simp [e6]
      · simp
      · simp
      · simp [e29]
      · simp [e30]
      · exact ⟨[], .k 1, .inr rfl, by simp, by simp [pH, List.map_set]⟩
      · intro e' g' k0 k4 k6 k7 k29 k30
        simp [k0, k4, k6, k7, k29, k30, hw, hsucc, hst]
  · rintro e h m ⟨e0, e4, e6, e29, rfl, g, rfl⟩
    exact hQ _ _ e4 e6

theorem pieces_c {h : List ABlk} {v : AV} {xs : List X} {loops : Int} {es : List E} (H : DP h v xs loops es) {oth : Nat → Nat → Nat × Nat} (ho : OthOk v xs loops es oth) (hM : xs.length ≤ 1000) :
    Ends PR (.f 250) [v] h ⟨.tup [SL h.length xs.length, I (piecesS oth xs.length xs.length).2], h ++ [.row false ((piecesS oth xs.length xs.length).1.map I)], [], none⟩ := by
  have H0 := H
  obtain ⟨b, ro, ac, cc, ae, ce, rfl, hb, hC, hA⟩ := H
  have w1 : IntKind.i64.wrap (xs.length : Int) = xs.length := wrap64 (by omega) (by omega)
  have e1 : (8 : Int) * xs.length ≤ 281474976710656 := by omega
  refine ends_of p250 (by simp [c250]) ?_
  simp [c250, hb, w1, e1]
  refine c250_l0_wp (p0 := .ptr (some ⟨b, 3, 0⟩)) hM rfl rfl rfl rfl ?_
  intro e f0 f4
  simp [f4]
  refine c250_l3_wp H0 ho hM (by simp [f0]) (by simp [f4]) (by simp) (by simp) (by simp) ?_
  intro e g f4 f6
  simp [f4, f6]
  exact gc_row (j := 0) (ro := false) (by simp) (by simp) refsL_ints (by simp)

end Go.Proofs.Ytocoadpepofbbaa.AM

/-
  HEAPS OF WHICH ONLY FACTS ARE KNOWN; compaction when something older was written; lists of lists.
-/
set_option linter.unusedVariables false
set_option linter.unusedSimpArgs false
namespace Go.Proofs.Ytocoadpepofbbaa.AM
open Go
variable {pr : FuncId → Option AFunc}

theorem hget_at {h l : List ABlk} {n k : Nat} (hn : h.length = n) : (h ++ l)[n + k]? = l[k]? := by subst hn; exact hget_new k
theorem hget_at0 {h l : List ABlk} {n : Nat} (hn : h.length = n) : (h ++ l)[n]? = l[0]? := by subst hn; exact hget_new0
theorem hset_at {h l : List ABlk} {n k : Nat} {x : ABlk} (hn : h.length = n) : (h ++ l).set (n + k) x = h ++ l.set k x := by subst hn; exact hset_new k x
theorem hset_at0 {h l : List ABlk} {n : Nat} {x : ABlk} (hn : h.length = n) : (h ++ l).set n x = h ++ l.set 0 x := by subst hn; exact hset_new0 x
theorem hset_old {h l : List ABlk} {b : Nat} {x : ABlk} (hb : b < h.length) : (h ++ l).set b x = h.set b x ++ l := List.set_append_left _ _ hb
theorem hlt {h : List ABlk} {b : Nat} {B : ABlk} (hb : h[b]? = some B) : b < h.length := (List.getElem?_eq_some_iff.mp hb).1

/-- The heap is as before, but for some blocks, and new ones. -/
def Upd (h h' : List ABlk) (W : List Nat) : Prop := h.length ≤ h'.length ∧ ∀ b, b < h.length → b ∉ W → h'[b]? = h[b]?
theorem Upd.refl (h : List ABlk) (W : List Nat) : Upd h h W := ⟨Nat.le_refl _, fun _ _ _ => rfl⟩
theorem Upd.trans {h h' h'' : List ABlk} {W : List Nat} (a : Upd h h' W) (b : Upd h' h'' W) : Upd h h'' W :=
  ⟨Nat.le_trans a.1 b.1, fun x hx hw => by rw [b.2 x (Nat.lt_of_lt_of_le hx a.1) hw, a.2 x hx hw]⟩
theorem Upd.app (h l : List ABlk) (W : List Nat) : Upd h (h ++ l) W := ⟨by simp, fun b hb _ => hget_old hb⟩
theorem Upd.set {h : List ABlk} {b : Nat} {x : ABlk} {W : List Nat} (hb : b ∈ W) : Upd h (h.set b x) W :=
  ⟨by simp, fun c _ hc => by rw [List.getElem?_set_ne]; rintro rfl; exact hc hb⟩
theorem Upd.get {h h' : List ABlk} {W : List Nat} (H : Upd h h' W) {b : Nat} {B : ABlk} (hb : h[b]? = some B) (hw : b ∉ W) : h'[b]? = some B := by rw [H.2 b (hlt hb) hw]; exact hb
theorem Upd.mono {h h' : List ABlk} {W W' : List Nat} (H : Upd h h' W) (hs : ∀ b ∈ W, b ∈ W' ∨ h.length ≤ b) : Upd h h' W' :=
  ⟨H.1, fun b hb hw => H.2 b hb fun hm => (hs b hm).elim hw fun h1 => absurd hb (by omega)⟩
theorem Upd.take {h h' : List ABlk} {W : List Nat} (H : Upd h h' W) {n : Nat} (hn : h.length ≤ n) (hn' : n ≤ h'.length) : Upd h (h'.take n) W :=
  ⟨by simp; omega, fun b hb hw => by rw [List.getElem?_take_of_lt (by omega)]; exact H.2 b hb hw⟩

theorem SlAt.upd {h h' : List ABlk} {W : List Nat} (U : Upd h h' W) {a : Option Ad} {n size : Nat} {cs : List AV} (H : SlAt h a n size cs) (hw : ∀ p, a = some p → p.b ∉ W) : SlAt h' a n size cs := by
  obtain ⟨h1, h2⟩ := H
  refine ⟨h1, h2.imp id ?_⟩
  rintro ⟨b, ro, rfl, hb⟩
  exact ⟨b, ro, rfl, U.get hb (hw _ rfl)⟩

theorem renBlks_nil (ρ : Nat → Option Nat) (h : List ABlk) : renBlks ρ h [] = some [] := (rfl)
/-- Compaction where blocks up to some one must stay. -/
theorem gcD_take {base lo : Nat} {v : AV} {h : List ABlk} (hv : refs v = []) (hk : ∀ b, base ≤ b → b < lo → h[b]? ≠ some .defr) : gcD base lo v h = some (v, h.take lo) := by
  have hok : okDefr base lo h = true := by
    simp only [okDefr]
    split
    · rfl
    · rw [List.all_eq_true]
      intro x hx
      obtain ⟨i, hi⟩ := List.mem_iff_getElem?.mp hx
      rw [List.getElem?_take] at hi
      split at hi
      · rw [List.getElem?_drop] at hi
        have := hk (base + i) (by omega) (by omega)
        rw [hi] at this
        cases x <;> first | rfl | exact (this rfl).elim
      · cases hi
  simp only [gcD, hok, if_true, gc, hv, List.filter_nil, List.flatMap_nil, List.append_nil, dd, renBlks_nil]
  rw [ren_same v (by simp [hv])]
  simp

theorem filter_lt_nil {base : Nat} {wr : List Nat} (h : ∀ b ∈ wr, base ≤ b) : wr.filter (· < base) = [] := by
  rw [List.filter_eq_nil_iff]; intro b hb; have := h b hb; simp; omega
/-- What a callee wrote lies in blocks of this frame. -/
theorem mup_ge {base n : Nat} {m : Mt} {wr : List Nat} {lk : Option (Nat × Nat)} (hlo : m.lo ≤ base) (hw : ∀ b ∈ wr, base ≤ b) (hk : ∀ b r, lk = some (b, r) → base ≤ b) : mup base m wr lk n = m := by
  obtain ⟨lo, w, k⟩ := m
  simp only [mup, filter_lt_nil hw, addAll]
  cases lk with
  | none => cases k <;> rfl
  | some q =>
    obtain ⟨b, r⟩ := q
    have hb := hk b r rfl
    have h1 : ¬ b < lo := by simp at hlo; omega
    have h2 : ¬ b < base := by omega
    simp only [adj, cut, h1, h2, false_and, if_false]
    cases k <;> rfl

/-- Two new rows are reached, which hold no new references. -/
theorem gc_row2 {h l : List ABlk} {v v' : AV} {i j : Nat} {ro ro' : Bool} {cs ds : List AV} (hij : i ≠ j) (hr : (refs v).filter (h.length ≤ ·) = [h.length + i, h.length + j])
    (hl : l[i]? = some (.row ro cs)) (hl' : l[j]? = some (.row ro' ds)) (hc : ∀ b ∈ refsL cs, b < h.length) (hd : ∀ b ∈ refsL ds, b < h.length)
    (hv : ren (fun b => if b < h.length then some b else if b = h.length + i then some h.length else if b = h.length + j then some (h.length + 1) else none) v = some v') :
    gc h.length v (h ++ l) = some (v', h ++ [.row ro cs, .row ro' ds]) := by
  have hb : (blkRefs (h ++ l) (h.length + i)).filter (h.length ≤ ·) = [] := by simp only [blkRefs, hget_new, hl]; exact filter_none hc
  have hb' : (blkRefs (h ++ l) (h.length + j)).filter (h.length ≤ ·) = [] := by simp only [blkRefs, hget_new, hl']; exact filter_none hd
  have e1 : (fun b => if b < h.length then some b else idx h.length [h.length + i, h.length + j] b) = (fun b => if b < h.length then some b else if b = h.length + i then some h.length else if b = h.length + j then some (h.length + 1) else none) := by
    funext b
    simp only [idx]
    by_cases h1 : h.length + i = b
    · simp [h1]
    · have h1' : ¬ b = h.length + i := fun h => h1 h.symm
      by_cases h2 : h.length + j = b
      · simp [h1, h1', h2]
      · have h2' : ¬ b = h.length + j := fun h => h2 h.symm
        simp [h1, h1', h2, h2']
  have e2 : dd [] ([h.length + i, h.length + j] ++ [] ++ []) = [h.length + i, h.length + j] := by
    have : ¬ (j = i) := fun h => hij h.symm
    simp [dd, this]
  have e3 : (List.flatMap (blkRefs (h ++ l)) [h.length + i, h.length + j]).filter (h.length ≤ ·) = [] := by
    simp only [List.flatMap_cons, List.flatMap_nil, List.append_nil, List.filter_append, hb, hb', List.nil_append]
  simp only [gc, hr, e3, List.flatMap_nil, List.filter_nil, e2, e1, hv, renBlks, hget_new, hl, hl', renBlk]
  rw [renL_same cs (fun b hb => by simp [hc b hb]), renL_same ds (fun b hb => by simp [hd b hb])]
  simp

/-! ### calls of which only facts are known -/
theorem ends_some {f : FuncId} {af : AFunc} {args : List AV} {h : List ABlk} {P : Ret → Prop} (hp : pr f = some af) (hl : args.length ≤ af.ntmps)
    (hw : wp pr h.length false af.body args h ⟨h.length, [], none⟩ fun x e h' m => (match x with | .exit _ => False | _ => True) ∧
      ∃ vs v h'', aResL ⟨e, h', 0, [], none⟩ af.res = some vs ∧ gcD h.length m.lo (tupOf vs) h' = some (v, h'') ∧ P ⟨v, h'', m.wr, m.lk⟩) : ∃ r, Ends pr (.f f) args h r ∧ P r := by
  obtain ⟨n, x, e', h', m', hx, hx1, vs, v, h'', hv, hg, hP⟩ := wp_sound _ hw
  refine ⟨_, ⟨n + 1, ?_⟩, hP⟩
  have hres : ∀ (l : List ARes), aResL (toSt e' h' m') l = aResL ⟨e', h', 0, [], none⟩ l := by
    intro l
    induction l with
    | nil => rfl
    | cons a l ih => simp only [aResL, ih]; cases a <;> rfl
  simp only [aCall, hp, if_pos hl]
  rw [hx]
  cases x with
  | exit i => exact hx1.elim
  | normal => simp only [hres, hv, hg]
  | ret => simp only [hres, hv, hg]
def someQ (res : List ARes) (base : Nat) (P : Ret → Prop) : ExK := fun x e h m => (match x with | .exit _ => False | _ => True) ∧
  ∃ vs v h'', aResL ⟨e, h, 0, [], none⟩ res = some vs ∧ gcD base m.lo (tupOf vs) h = some (v, h'') ∧ P ⟨v, h'', m.wr, m.lk⟩
@[simp] theorem someQ_ret (res : List ARes) (base : Nat) (P : Ret → Prop) (e : List AV) (h : List ABlk) (m : Mt) : someQ res base P .ret e h m =
    ∃ vs v h'', aResL ⟨e, h, 0, [], none⟩ res = some vs ∧ gcD base m.lo (tupOf vs) h = some (v, h'') ∧ P ⟨v, h'', m.wr, m.lk⟩ := by simp [someQ]
@[simp] theorem someQ_normal (res : List ARes) (base : Nat) (P : Ret → Prop) (e : List AV) (h : List ABlk) (m : Mt) : someQ res base P .normal e h m =
    ∃ vs v h'', aResL ⟨e, h, 0, [], none⟩ res = some vs ∧ gcD base m.lo (tupOf vs) h = some (v, h'') ∧ P ⟨v, h'', m.wr, m.lk⟩ := by simp [someQ]
theorem ends_some' {f : FuncId} {af : AFunc} {args : List AV} {h : List ABlk} {P : Ret → Prop} (hp : pr f = some af) (hl : args.length ≤ af.ntmps)
    (hw : wp pr h.length false af.body args h ⟨h.length, [], none⟩ (someQ af.res h.length P)) : ∃ r, Ends pr (.f f) args h r ∧ P r := ends_some hp hl hw

def yQ2 (l base : Nat) (P : Ret → Prop) : ExK := fun x e2 h2 m2 =>
  ∃ lp2, h2[l]? = some (.loop lp2) ∧ ∃ v h', gcD base m2.lo (.bool (x == .normal)) (h2.set l (.loop { lp2 with st := if x == .normal then .ready else .done, pend := if x == .normal then none else some x })) = some (v, h') ∧ P ⟨v, h', m2.wr, m2.lk⟩
@[simp] theorem yQ2_normal (l base : Nat) (P : Ret → Prop) (e : List AV) (h : List ABlk) (m : Mt) : yQ2 l base P .normal e h m =
  ∃ lp2, h[l]? = some (.loop lp2) ∧ ∃ v h', gcD base m.lo (.bool true) (h.set l (.loop { lp2 with st := .ready, pend := none })) = some (v, h') ∧ P ⟨v, h', m.wr, m.lk⟩ := (rfl)
def yQ1 (pr : FuncId → Option AFunc) (l base : Nat) (body : ACode) (P : Ret → Prop) : ExK := fun x e1 h1 m1 => x = .normal ∧
  ∃ lp1, h1[l]? = some (.loop lp1) ∧ lp1.st = .ready ∧ lp1.body = body ∧ wp pr base true body e1 (h1.set l (.loop { lp1 with st := .busy })) ⟨m1.lo, addAll m1.wr [l], m1.lk⟩ (yQ2 l base P)
@[simp] theorem yQ1_normal (l base : Nat) (body : ACode) (P : Ret → Prop) (e : List AV) (h : List ABlk) (m : Mt) : yQ1 pr l base body P .normal e h m =
  ∃ lp1, h[l]? = some (.loop lp1) ∧ lp1.st = .ready ∧ lp1.body = body ∧ wp pr base true body e (h.set l (.loop { lp1 with st := .busy })) ⟨m.lo, addAll m.wr [l], m.lk⟩ (yQ2 l base P) := by simp [yQ1]
theorem ends_ysome {l : Nat} {args : List AV} {h : List ABlk} {P : Ret → Prop} {lp : ALoop} (hl : h[l]? = some (.loop lp)) (ha : args.length = lp.params.length) (hs : lp.st = .ready)
    (hw : wp pr h.length true lp.assign (pushTmps lp.e lp.params args) h ⟨h.length, [], none⟩ (yQ1 pr l h.length lp.body P)) : ∃ r, Ends pr (.y l) args h r ∧ P r := by
  obtain ⟨n1, x, e1, h1, m1, hx, rfl, lp1, hl1, hs1, hb1, hw1⟩ := wp_sound _ hw
  obtain ⟨n2, x2, e2, h2, m2, hx2, lp2, hl2, v, h', hg, hP⟩ := wp_sound _ hw1
  refine ⟨_, ⟨max n1 n2 + 1, ?_⟩, hP⟩
  simp only [aCall, hl]
  rw [if_pos ⟨ha, hs⟩]
  have a1 := exec_up _ _ (Nat.le_max_left n1 n2) hx
  have a2 := exec_up _ _ (Nat.le_max_right n1 n2) hx2
  simp only [a1]
  simp only [hl1, hs1, if_true]
  simp only [a2, hl2, hg]

end Go.Proofs.Ytocoadpepofbbaa.AM
