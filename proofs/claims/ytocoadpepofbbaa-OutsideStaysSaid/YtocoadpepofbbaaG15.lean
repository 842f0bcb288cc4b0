/-
  SOUND DIAGRAMS, in plain Lean: what the search for the places of all arcs decides.
-/
import Derived.Test.YtocoadpepofbbaaG14
set_option linter.unusedVariables false
set_option linter.unusedSimpArgs false
namespace Go.Proofs.Ytocoadpepofbbaa.AM
open Go

/-! ### lists without repetition -/
theorem nodup_len {α : Type} [DecidableEq α] : ∀ {l u : List α}, l.Nodup → (∀ x ∈ l, x ∈ u) → l.length ≤ u.length
  | [], _, _, _ => by simp
  | x :: l, u, hn, hs => by
    rw [List.nodup_cons] at hn
    have hx := hs x (by simp)
    have := nodup_len (l := l) (u := u.erase x) hn.2 (fun y hy => (List.mem_erase_of_ne (by rintro rfl; exact hn.1 hy)).mpr (hs y (by simp [hy])))
    rw [List.length_erase_of_mem hx] at this
    have := List.length_pos_of_mem hx
    simp; omega
theorem nodup_all {α : Type} [DecidableEq α] {l u : List α} (hn : l.Nodup) (hs : ∀ x ∈ l, x ∈ u) (hl : u.length ≤ l.length) {x : α} (hx : x ∈ u) : x ∈ l := by
  by_cases h : x ∈ l
  · exact h
  · have := nodup_len (l := l) (u := u.erase x) hn (fun y hy => (List.mem_erase_of_ne (by rintro rfl; exact h hy)).mpr (hs y hy))
    rw [List.length_erase_of_mem hx] at this
    have := List.length_pos_of_mem hx
    omega

/-! ### places -/
def places (k : Nat) : List Pl := (List.range k).flatMap fun i => (List.range 4).map fun p => (i, p)
theorem mem_places {k : Nat} {q : Pl} : q ∈ places k ↔ q.1 < k ∧ q.2 < 4 := by
  obtain ⟨i, p⟩ := q
  simp [places, List.mem_flatMap]
theorem places_succ (k : Nat) : places (k + 1) = places k ++ (List.range 4).map fun p => (k, p) := by simp [places, List.range_succ]
theorem places_len (k : Nat) : (places k).length = 4 * k := by
  induction k with
  | zero => rfl
  | succ k ih => rw [places_succ]; simp [ih]; omega
theorem places_nodup (k : Nat) : (places k).Nodup := by
  induction k with
  | zero => simp [places]
  | succ k ih =>
    rw [places_succ, List.nodup_append]
    refine ⟨ih, ?_, ?_⟩
    · simp [List.nodup_cons, List.range, List.range.loop]
    · intro a ha b hb
      rw [mem_places] at ha
      simp at hb
      obtain ⟨p, _, rfl⟩ := hb
      rintro rfl
      simp at ha

def arcAt (xs : List X) (q : Pl) : Int := match xs[q.1]? with | some x => x.arc q.2 | none => -1
def outAt (xs : List X) (q : Pl) : Bool := match xs[q.1]? with | some x => x.out q.2 | none => false
def keyAt (xs : List X) (q : Pl) : Int × Bool := (arcAt xs q, outAt xs q)
def entAt (xs : List X) (q : Pl) : Use := (keyAt xs q, q)
def goodAt (xs : List X) (q : Pl) : Prop := 0 ≤ arcAt xs q ∧ arcAt xs q < 2 * (xs.length : Int)

/-- One use more. -/
def useQ (xs : List X) (m : Option (List Use)) (q : Pl) : Option (List Use) :=
  match m with
  | none => none
  | some m => if (lookIx m (keyAt xs q) 0).isSome ∨ arcAt xs q < 0 ∨ 2 * (xs.length : Int) ≤ arcAt xs q then none else some (mset m (keyAt xs q) q)
theorem useQ_none (xs : List X) : ∀ L : List Pl, L.foldl (useQ xs) none = none
  | [] => rfl
  | p :: l => useQ_none xs l
theorem lookIx_none {K V : Type} [DecidableEq K] : ∀ {m : List (K × V)} {k : K} {i : Nat}, lookIx m k i = none ↔ k ∉ m.map (·.1)
  | [], _, _ => by simp [lookIx]
  | (x, v) :: m, k, i => by
    simp only [lookIx, List.map_cons, List.mem_cons]
    by_cases h : x = k
    · simp [h]
    · have h' : ¬ k = x := fun e => h e.symm
      rw [if_neg h, lookIx_none]
      simp [h']
theorem fq_some {xs : List X} : ∀ {L : List Pl} {m0 m : List Use}, L.foldl (useQ xs) (some m0) = some m → m = m0 ++ L.map (entAt xs) ∧ (∀ q ∈ L, goodAt xs q) ∧ ((m0.map (·.1)).Nodup → (m.map (·.1)).Nodup)
  | [], m0, m, h => by simp at h; subst h; simp
  | q :: L, m0, m, h => by
    rw [List.foldl_cons] at h
    by_cases hc : (lookIx m0 (keyAt xs q) 0).isSome ∨ arcAt xs q < 0 ∨ 2 * (xs.length : Int) ≤ arcAt xs q
    · have : useQ xs (some m0) q = none := by simp only [useQ]; rw [if_pos hc]
      rw [this, useQ_none] at h; cases h
    · have hn : lookIx m0 (keyAt xs q) 0 = none := by
        cases hl : lookIx m0 (keyAt xs q) 0 with
        | none => rfl
        | some v => exact (hc (.inl (by simp [hl]))).elim
      have : useQ xs (some m0) q = some (m0 ++ [entAt xs q]) := by simp only [useQ]; rw [if_neg hc]; simp [mset, hn, entAt]
      rw [this] at h
      obtain ⟨h1, h2, h3⟩ := fq_some h
      refine ⟨by rw [h1]; simp, ?_, ?_⟩
      · intro q' hq'
        rcases List.mem_cons.mp hq' with rfl | hq'
        · exact ⟨by omega, by omega⟩
        · exact h2 q' hq'
      · intro hnd
        refine h3 ?_
        rw [List.map_append, List.nodup_append]
        refine ⟨hnd, by simp, ?_⟩
        intro a ha b hb
        simp [entAt] at hb
        subst hb
        rintro rfl
        exact lookIx_none.mp hn ha
theorem fq_of {xs : List X} : ∀ {L : List Pl} {m0 : List Use}, (∀ q ∈ L, goodAt xs q) → ((m0 ++ L.map (entAt xs)).map (·.1)).Nodup → L.foldl (useQ xs) (some m0) = some (m0 ++ L.map (entAt xs))
  | [], m0, _, _ => by simp
  | q :: L, m0, hg, hn => by
    have h1 := hg q (by simp)
    have h2 : lookIx m0 (keyAt xs q) 0 = none := by
      rw [lookIx_none]
      intro hm
      rw [List.map_append, List.nodup_append] at hn
      exact hn.2.2 _ hm _ (by simp [entAt]) rfl
    have h3 : useQ xs (some m0) q = some (m0 ++ [entAt xs q]) := by
      have a1 := h1.1
      have a2 := h1.2
      simp only [useQ, h2]
      rw [if_neg (by simp; omega)]
      simp [mset, h2, entAt]
    rw [List.foldl_cons, h3, fq_of (fun q hq => hg q (by simp [hq])) (by simpa using hn)]
    simp

theorem usePs_Q {xs : List X} {i : Nat} {x : X} (hx : xs[i]? = some x) (m : Option (List Use)) : usePs xs.length x i m 4 = ((List.range 4).map fun p => (i, p)).foldl (useQ xs) m := by
  rw [usePs, List.foldl_map]
  congr 1
  funext m p
  cases m with
  | none => rfl
  | some m =>
    simp only [useP, useQ, keyAt, arcAt, outAt, hx]

/-- A sound diagram. -/
structure Snd (xs : List X) : Prop where
  sgn : ∀ x ∈ xs, x.s = 1 ∨ x.s = -1
  rng : ∀ q ∈ places xs.length, goodAt xs q
  inj : ∀ q ∈ places xs.length, ∀ q' ∈ places xs.length, keyAt xs q = keyAt xs q' → q = q'

theorem useXs_some {xs : List X} : ∀ {k : Nat} {m : List Use}, k ≤ xs.length → useXs xs k = some m →
    m = (places k).map (entAt xs) ∧ (∀ i, i < k → ∀ x, xs[i]? = some x → x.s = 1 ∨ x.s = -1) ∧ (∀ q ∈ places k, goodAt xs q) ∧ (m.map (·.1)).Nodup
  | 0, m, _, h => by simp [useXs] at h; subst h; simp [places]
  | k + 1, m, hk, h => by
    rw [useXs_succ] at h
    cases hm : useXs xs k with
    | none =>
      rw [hm] at h
      have : useX xs none k = none := by
        unfold useX
        split
        · rfl
        · split
          · rfl
          · exact useP_none _ _ _ _
      rw [this] at h; cases h
    | some m0 =>
      obtain ⟨h1, h2, h3, h4⟩ := useXs_some (by omega) hm
      rw [hm] at h
      obtain ⟨x, hx⟩ : ∃ x, xs[k]? = some x := ⟨_, List.getElem?_eq_getElem (by omega)⟩
      simp only [useX, hx] at h
      by_cases hs : x.s ≠ 1 ∧ x.s ≠ -1
      · rw [if_pos hs] at h; cases h
      · rw [if_neg hs, usePs_Q hx] at h
        obtain ⟨g1, g2, g3⟩ := fq_some h
        refine ⟨by rw [g1, h1, places_succ]; simp, ?_, ?_, g3 h4⟩
        · intro i hi y hy
          by_cases hik : i < k
          · exact h2 i hik y hy
          · have : i = k := by omega
            subst this
            rw [hx] at hy; cases hy
            by_cases h1 : x.s = 1
            · exact .inl h1
            · exact .inr (by by_cases h2 : x.s = -1; exact h2; exact (hs ⟨h1, h2⟩).elim)
        · intro q hq
          rw [places_succ] at hq
          rcases List.mem_append.mp hq with hq | hq
          · exact h3 q hq
          · exact g2 q hq

theorem nodup_map_inj {α β : Type} {f : α → β} : ∀ {l : List α}, (l.map f).Nodup → ∀ a ∈ l, ∀ b ∈ l, f a = f b → a = b
  | [], _, _, ha, _, _, _ => by simp at ha
  | x :: l, hn, a, ha, b, hb, hf => by
    rw [List.map_cons, List.nodup_cons] at hn
    rcases List.mem_cons.mp ha with h1 | ha'
    · rcases List.mem_cons.mp hb with h2 | hb'
      · rw [h1, h2]
      · subst h1
        exact (hn.1 (by rw [hf]; exact List.mem_map_of_mem hb')).elim
    · rcases List.mem_cons.mp hb with h2 | hb'
      · subst h2
        exact (hn.1 (by rw [← hf]; exact List.mem_map_of_mem ha')).elim
      · exact nodup_map_inj hn.2 a ha' b hb' hf
theorem nodup_map_of {α β : Type} {f : α → β} : ∀ {l : List α}, l.Nodup → (∀ a ∈ l, ∀ b ∈ l, f a = f b → a = b) → (l.map f).Nodup
  | [], _, _ => by simp
  | x :: l, hn, hi => by
    rw [List.nodup_cons] at hn
    rw [List.map_cons, List.nodup_cons]
    refine ⟨?_, nodup_map_of hn.2 fun a ha b hb => hi a (by simp [ha]) b (by simp [hb])⟩
    intro hm
    obtain ⟨y, hy, he⟩ := List.mem_map.mp hm
    have := hi y (by simp [hy]) x (by simp) he
    subst this
    exact hn.1 hy

theorem entAt_keys (xs : List X) (L : List Pl) : (L.map (entAt xs)).map (·.1) = L.map (keyAt xs) := by simp [entAt]

theorem snd_of {xs : List X} {m : List Use} (h : useXs xs xs.length = some m) : Snd xs ∧ m = (places xs.length).map (entAt xs) := by
  obtain ⟨h1, h2, h3, h4⟩ := useXs_some (Nat.le_refl _) h
  refine ⟨⟨?_, h3, ?_⟩, h1⟩
  · intro x hx
    obtain ⟨i, hi⟩ := List.mem_iff_getElem?.mp hx
    exact h2 i (lt_get hi) x hi
  · rw [h1, entAt_keys] at h4
    exact nodup_map_inj h4
theorem useXs_of {xs : List X} (S : Snd xs) : ∀ {k : Nat}, k ≤ xs.length → useXs xs k = some ((places k).map (entAt xs))
  | 0, _ => rfl
  | k + 1, hk => by
    rw [useXs_succ, useXs_of S (by omega)]
    obtain ⟨x, hx⟩ : ∃ x, xs[k]? = some x := ⟨_, List.getElem?_eq_getElem (by omega)⟩
    have hs := S.sgn x (List.mem_of_getElem? hx)
    simp only [useX, hx]
    rw [if_neg (by rintro ⟨a, b⟩; rcases hs with h | h; exact a h; exact b h), usePs_Q hx, fq_of]
    · rw [places_succ]; simp
    · intro q hq
      refine S.rng q ?_
      rw [mem_places]
      simp at hq
      obtain ⟨p, hp, rfl⟩ := hq
      exact ⟨by simp; omega, hp⟩
    · rw [← List.map_append, ← places_succ, entAt_keys]
      refine nodup_map_of (places_nodup _) fun a ha b hb => S.inj a ?_ b ?_
      · rw [mem_places] at ha ⊢; omega
      · rw [mem_places] at hb ⊢; omega
theorem snd_iff {xs : List X} : (∃ m, useXs xs xs.length = some m) ↔ Snd xs := ⟨fun ⟨m, h⟩ => (snd_of h).1, fun S => ⟨_, useXs_of S (Nat.le_refl _)⟩⟩

/-! ### where arcs begin and end -/
/-- The first place of a use. -/
def endPl (xs : List X) (k : Int × Bool) : Pl := ((places xs.length).find? fun q => keyAt xs q == k).getD (0, 0)
theorem look_ent {xs : List X} (k : Int × Bool) : ∀ (L : List Pl) (i : Nat), (lookIx (L.map (entAt xs)) k i).map (·.2) = L.find? fun q => keyAt xs q == k
  | [], i => rfl
  | q :: L, i => by
    simp only [List.map_cons, entAt, lookIx, List.find?_cons]
    by_cases h : keyAt xs q = k
    · simp [h]
    · rw [if_neg h]
      have hb : (keyAt xs q == k) = false := by simpa using h
      rw [hb]
      exact look_ent k L (i + 1)
theorem endOf_eq {xs : List X} (k : Int × Bool) : endOf ((places xs.length).map (entAt xs)) k = endPl xs k := by
  rw [endOf, look_ent, endPl]
/-- All uses of the arcs. -/
def allKeys (n : Nat) : List (Int × Bool) := (List.range (2 * n)).flatMap fun (a : Nat) => [((a : Int), true), ((a : Int), false)]
theorem allKeys_len (n : Nat) : (allKeys n).length = 4 * n := by
  rw [allKeys, flatMap_len _ 2 (fun _ => rfl)]; simp; omega
theorem Snd.hit {xs : List X} (S : Snd xs) {a : Nat} (ha : a < 2 * xs.length) (o : Bool) : ∃ q ∈ places xs.length, keyAt xs q = ((a : Int), o) := by
  have hn : ((places xs.length).map (keyAt xs)).Nodup := nodup_map_of (places_nodup _) S.inj
  have := nodup_all (u := allKeys xs.length) hn (x := ((a : Int), o)) ?_ ?_ ?_
  · obtain ⟨q, h1, h2⟩ := List.mem_map.mp this
    exact ⟨q, h1, h2⟩
  · intro k hk
    obtain ⟨q, h1, h2⟩ := List.mem_map.mp hk
    have hg := S.rng q h1
    simp only [allKeys, List.mem_flatMap, List.mem_range]
    refine ⟨(arcAt xs q).toNat, by have := hg.1; have := hg.2; omega, ?_⟩
    have h3 : ((arcAt xs q).toNat : Int) = arcAt xs q := by have := hg.1; omega
    rw [← h2, keyAt, h3]
    cases outAt xs q <;> simp
  · rw [allKeys_len]; simp [places_len]
  · simp only [allKeys, List.mem_flatMap, List.mem_range]
    exact ⟨a, ha, by cases o <;> simp⟩
theorem Snd.endPl {xs : List X} (S : Snd xs) {a : Nat} (ha : a < 2 * xs.length) (o : Bool) : endPl xs ((a : Int), o) ∈ places xs.length ∧ keyAt xs (endPl xs ((a : Int), o)) = ((a : Int), o) := by
  obtain ⟨q, h1, h2⟩ := S.hit ha o
  unfold AM.endPl
  cases hf : (places xs.length).find? fun q => keyAt xs q == ((a : Int), o) with
  | none =>
    rw [List.find?_eq_none] at hf
    exact (hf q h1 (by simpa using h2)).elim
  | some r =>
    have := List.find?_some hf
    exact ⟨List.mem_of_find?_eq_some hf, by simpa using this⟩
theorem Snd.endPl_uniq {xs : List X} (S : Snd xs) {a : Nat} {o : Bool} {q : Pl} (hq : q ∈ places xs.length) (hk : keyAt xs q = ((a : Int), o)) : AM.endPl xs ((a : Int), o) = q := by
  have hg := S.rng q hq
  have ha : (a : Int) = arcAt xs q := by rw [keyAt] at hk; simp at hk; exact hk.1.symm
  have h := S.endPl (a := a) (by have := hg.2; omega) o
  exact S.inj _ h.1 _ hq (by rw [h.2, hk])

/-- The other place of the arc at a place. -/
def othS (xs : List X) (c p : Nat) : Nat × Nat := endPl xs (arcAt xs (c, p), !outAt xs (c, p))
/-- The arc behind an arc. -/
def nxtS (xs : List X) (a : Nat) : Nat := (arcAt xs ((endPl xs ((a : Int), false)).1, ((endPl xs ((a : Int), false)).2 + 2) % 4)).toNat

theorem Snd.arc {xs : List X} (S : Snd xs) {q : Pl} (hq : q ∈ places xs.length) : ∃ a : Nat, arcAt xs q = a ∧ a < 2 * xs.length := by
  have hg := S.rng q hq
  exact ⟨(arcAt xs q).toNat, by have := hg.1; omega, by have := hg.1; have := hg.2; omega⟩
theorem Snd.oth {xs : List X} (S : Snd xs) {q : Pl} (hq : q ∈ places xs.length) : othS xs q.1 q.2 ∈ places xs.length ∧ arcAt xs (othS xs q.1 q.2) = arcAt xs q ∧ outAt xs (othS xs q.1 q.2) = !outAt xs q := by
  obtain ⟨a, ha, hlt⟩ := S.arc hq
  have h := S.endPl hlt (!outAt xs q)
  have he : othS xs q.1 q.2 = AM.endPl xs ((a : Int), !outAt xs q) := by rw [othS, ← ha]
  rw [he]
  refine ⟨h.1, ?_, ?_⟩
  · have := h.2; rw [keyAt] at this; simp at this; rw [this.1, ha]
  · have := h.2; rw [keyAt] at this; simp at this; exact this.2
theorem Snd.oth_oth {xs : List X} (S : Snd xs) {q : Pl} (hq : q ∈ places xs.length) : othS xs (othS xs q.1 q.2).1 (othS xs q.1 q.2).2 = q := by
  have h := S.oth hq
  have h' := S.oth h.1
  refine S.inj _ h'.1 _ hq ?_
  rw [keyAt, keyAt, h'.2.1, h'.2.2, h.2.1, h.2.2]
  simp

theorem Snd.nextPl {xs : List X} (S : Snd xs) {q : Pl} (hq : q ∈ places xs.length) : nextPl (othS xs) q ∈ places xs.length := by
  have h := S.oth hq
  rw [mem_places] at h ⊢
  exact ⟨h.1.1, by simp only [AM.nextPl]; omega⟩
theorem Snd.nextPl_inj {xs : List X} (S : Snd xs) {q q' : Pl} (hq : q ∈ places xs.length) (hq' : q' ∈ places xs.length) (h : AM.nextPl (othS xs) q = AM.nextPl (othS xs) q') : q = q' := by
  have h1 := S.oth hq
  have h2 := S.oth hq'
  have e : othS xs q.1 q.2 = othS xs q'.1 q'.2 := by
    have := h1.1; rw [mem_places] at this
    have := h2.1; rw [mem_places] at this
    simp only [AM.nextPl, Prod.mk.injEq] at h
    refine Prod.ext h.1 ?_
    omega
  rw [← S.oth_oth hq, ← S.oth_oth hq', e]

/-! ### regions come back to their beginning -/
def itP (nx : Pl → Pl) : Nat → Pl → Pl
  | 0, x => x
  | k + 1, x => nx (itP nx k x)
theorem itP_succ' (nx : Pl → Pl) : ∀ (k : Nat) (x : Pl), itP nx (k + 1) x = itP nx k (nx x)
  | 0, _ => rfl
  | k + 1, x => by rw [itP, itP_succ' nx k x]; rfl
theorem stops_of {nx : Pl → Pl} {e : Pl} : ∀ {k f : Nat} {x : Pl}, k < f → itP nx (k + 1) x = e → stops nx e f x
  | 0, 0, _, h, _ => by omega
  | 0, f + 1, x, _, h => .inl h
  | k + 1, 0, _, h, _ => by omega
  | k + 1, f + 1, x, hk, h => .inr (stops_of (k := k) (by omega) (by rw [← itP_succ']; exact h))
theorem php {l : List Pl} {u : List Pl} (hs : ∀ x ∈ l, x ∈ u) (hl : u.length < l.length) : ∃ i j : Nat, i < j ∧ ∃ x, l[i]? = some x ∧ l[j]? = some x := by
  by_cases hn : l.Nodup
  · have := nodup_len hn hs; omega
  · clear hl hs
    induction l with
    | nil => simp at hn
    | cons a l ih =>
      by_cases ha : a ∈ l
      · obtain ⟨j, hj⟩ := List.mem_iff_getElem?.mp ha
        exact ⟨0, j + 1, by omega, a, rfl, by simpa using hj⟩
      · obtain ⟨i, j, hij, x, h1, h2⟩ := ih (fun h => hn (List.nodup_cons.mpr ⟨ha, h⟩))
        exact ⟨i + 1, j + 1, by omega, x, by simpa using h1, by simpa using h2⟩
theorem Snd.it {xs : List X} (S : Snd xs) {q : Pl} (hq : q ∈ places xs.length) : ∀ k, itP (AM.nextPl (othS xs)) k q ∈ places xs.length
  | 0 => hq
  | k + 1 => S.nextPl (S.it hq k)
theorem Snd.it_inj {xs : List X} (S : Snd xs) {q : Pl} (hq : q ∈ places xs.length) : ∀ i d, itP (AM.nextPl (othS xs)) i q = itP (AM.nextPl (othS xs)) (i + d) q → itP (AM.nextPl (othS xs)) d q = q
  | 0, d, h => by rw [Nat.zero_add] at h; exact h.symm
  | i + 1, d, h => by
    refine S.it_inj hq i d (S.nextPl_inj (S.it hq _) (S.it hq _) ?_)
    rw [show i + 1 + d = (i + d) + 1 by omega] at h
    exact h
theorem Snd.stops {xs : List X} (S : Snd xs) {q : Pl} (hq : q ∈ places xs.length) : AM.stops (AM.nextPl (othS xs)) q (4 * xs.length) q := by
  obtain ⟨i, j, hij, x, h1, h2⟩ := php (l := (List.range (4 * xs.length + 1)).map fun k => itP (AM.nextPl (othS xs)) k q) (u := places xs.length)
    (by intro x hx; obtain ⟨k, _, rfl⟩ := List.mem_map.mp hx; exact S.it hq k) (by simp [places_len])
  simp only [List.getElem?_map, Option.map_eq_some_iff] at h1 h2
  obtain ⟨i', h1, h3⟩ := h1
  obtain ⟨j', h2, h4⟩ := h2
  have hi := lt_get h1
  have hj := lt_get h2
  simp at hi hj
  rw [List.getElem?_range (by omega)] at h1 h2
  simp at h1 h2
  subst h1 h2
  have := S.it_inj hq i (j - i) (by rw [show i + (j - i) = j by omega, h3, h4])
  obtain ⟨d, hd⟩ : ∃ d, j - i = d + 1 := ⟨j - i - 1, by omega⟩
  rw [hd] at this
  exact stops_of (by omega) this

end Go.Proofs.Ytocoadpepofbbaa.AM

/-
  THE PACKAGE diag, part 8: whether a diagram is valid.
-/
set_option linter.unusedVariables false
set_option linter.unusedSimpArgs false
set_option maxRecDepth 10000
namespace Go.Proofs.Ytocoadpepofbbaa.AM
open Go

/-- The arcs of a sound diagram. -/
def arcsS (xs : List X) : List E := (List.range (2 * xs.length)).map fun a : Nat => ⟨(endPl xs ((a : Int), true)).1, (endPl xs ((a : Int), true)).2, (endPl xs ((a : Int), false)).1, (endPl xs ((a : Int), false)).2⟩
theorem arcsS_len (xs : List X) : (arcsS xs).length = 2 * xs.length := by simp [arcsS]
theorem endsS_snd {xs : List X} {loops : Int} (h1 : xs.length ≤ 200) (h2 : 0 ≤ loops ∧ loops ≤ 200) (S : Snd xs) : endsS xs loops = some (arcsS xs) := by
  rw [endsS, if_neg (by omega), useXs_of S (Nat.le_refl _)]
  simp only [Option.map_some, arcsS]
  congr 2
  funext a
  simp only [arcE, endOf_eq]
theorem endsS_some {xs : List X} {loops : Int} {es : List E} (h : endsS xs loops = some es) : xs.length ≤ 200 ∧ 0 ≤ loops ∧ loops ≤ 200 ∧ Snd xs ∧ es = arcsS xs := by
  have h0 := h
  rw [endsS] at h
  split at h
  · cases h
  · rename_i hc
    obtain ⟨m, hm, _⟩ := Option.map_eq_some_iff.mp h
    have S := (snd_of hm).1
    have := endsS_snd (loops := loops) (by omega) (by omega) S
    rw [this] at h0; cases h0
    exact ⟨by omega, by omega, by omega, S, rfl⟩

theorem X_arc {xs : List X} {c p : Nat} {x : X} (hx : xs[c]? = some x) : x.arc p = arcAt xs (c, p) := by simp [arcAt, hx]
theorem arcsS_get {xs : List X} {a : Nat} (ha : a < 2 * xs.length) : (arcsS xs)[a]? = some ⟨(endPl xs ((a : Int), true)).1, (endPl xs ((a : Int), true)).2, (endPl xs ((a : Int), false)).1, (endPl xs ((a : Int), false)).2⟩ := by
  simp [arcsS, ha]

theorem Snd.othOk {xs : List X} (S : Snd xs) (v : AV) (loops : Int) : OthOk v xs loops (arcsS xs) (othS xs) := by
  intro c p hc hp
  have hq : (c, p) ∈ places xs.length := mem_places.mpr ⟨hc, hp⟩
  obtain ⟨a, ha, hlt⟩ := S.arc hq
  have ho := S.oth hq
  have hm := mem_places.mp ho.1
  refine ⟨hm.1, hm.2, fun h D => ?_⟩
  obtain ⟨x, hx⟩ : ∃ x, xs[c]? = some x := ⟨_, List.getElem?_eq_getElem hc⟩
  have hE := arcsS_get hlt
  have := other_c D hx hp (a := a) (by rw [X_arc hx, ha]) hE
  have he : otherS (arcsS xs) a c p = othS xs c p := by
    rw [otherS, hE]
    dsimp only
    rw [othS, ha]
    cases hout : outAt xs (c, p) with
    | true =>
      have := S.endPl_uniq hq (a := a) (o := true) (by rw [keyAt, ha, hout])
      rw [this, if_pos ⟨rfl, rfl⟩]; rfl
    | false =>
      have h2 := S.endPl hlt true
      rw [if_neg]
      · rfl
      · rintro ⟨e1, e2⟩
        have : AM.endPl xs ((a : Int), true) = (c, p) := Prod.ext e1 e2
        rw [this, keyAt, hout] at h2
        simp at h2
  rw [he] at this
  exact this

theorem Snd.nextOk {xs : List X} (S : Snd xs) : NextOk xs (arcsS xs) (nxtS xs) := by
  intro a ha
  rw [arcsS_len] at ha ⊢
  have h2 := S.endPl ha false
  have hm := mem_places.mp h2.1
  obtain ⟨x, hx⟩ : ∃ x, xs[(AM.endPl xs ((a : Int), false)).1]? = some x := ⟨_, List.getElem?_eq_getElem hm.1⟩
  obtain ⟨a', ha', hlt⟩ := S.arc (q := ((AM.endPl xs ((a : Int), false)).1, ((AM.endPl xs ((a : Int), false)).2 + 2) % 4)) (mem_places.mpr ⟨hm.1, by dsimp only; omega⟩)
  refine ⟨_, x, arcsS_get ha, hx, hm.2, ?_, ?_⟩
  · rw [X_arc hx]; dsimp only; rw [nxtS, ha']; simp
  · rw [nxtS, ha']; simpa using hlt

/-! ### the numbers of the pieces -/
/-- All numbers are -1 or below some bound. -/
def Num (n : Int) (l : List Int) : Prop := ∀ x ∈ l, x = -1 ∨ 0 ≤ x ∧ x < n
theorem mem_set' {α : Type} {l : List α} {i : Nat} {a x : α} (h : x ∈ l.set i a) : x = a ∨ x ∈ l := by
  rcases List.mem_or_eq_of_mem_set h with h | h
  · exact .inr h
  · exact .inl h
theorem pStep_num {oth : Nat → Nat → Nat × Nat} {nn : Int} {q p : Nat} {s : List Int × List Nat} (h0 : 0 ≤ nn) (h : Num (nn + 1) s.1) : Num (nn + 1) (pStep oth nn q s p).1 := by
  unfold pStep
  split
  · intro x hx
    rcases mem_set' hx with rfl | hx
    · exact .inr ⟨h0, by omega⟩
    · exact h x hx
  · exact h
theorem pFold_num {oth : Nat → Nat → Nat × Nat} {nn : Int} {q : Nat} {s : List Int × List Nat} (h0 : 0 ≤ nn) (h : Num (nn + 1) s.1) : ∀ k, Num (nn + 1) (pFold oth nn q s k).1
  | 0 => h
  | k + 1 => by rw [pFold_succ]; exact pStep_num h0 (pFold_num h0 h k)
theorem pieceGo_num {oth : Nat → Nat → Nat × Nat} {nn : Int} (h0 : 0 ≤ nn) : ∀ (f : Nat) (s : List Int × List Nat) (k : Nat), Num (nn + 1) s.1 → Num (nn + 1) (pieceGo oth nn f s k)
  | 0, s, k, h => h
  | f + 1, s, k, h => by
    simp only [pieceGo]
    split
    · exact h
    · exact pieceGo_num h0 f _ _ (pFold_num h0 h 4)
/-- Numbers that are given stay. -/
def Keep (l l' : List Int) : Prop := ∀ (i : Nat) (x : Int), l[i]? = some x → 0 ≤ x → l'[i]? = some x
theorem pStep_keep {oth : Nat → Nat → Nat × Nat} {nn : Int} {q p : Nat} {s : List Int × List Nat} : Keep s.1 (pStep oth nn q s p).1 := by
  intro i x hi hx
  unfold pStep
  split
  · rename_i hc
    dsimp only
    rw [List.getElem?_set_ne]
    · exact hi
    · rintro rfl
      rw [hi] at hc; simp at hc; omega
  · exact hi
theorem pFold_keep {oth : Nat → Nat → Nat × Nat} {nn : Int} {q : Nat} {s : List Int × List Nat} : ∀ k, Keep s.1 (pFold oth nn q s k).1
  | 0 => fun _ _ h _ => h
  | k + 1 => fun i x hi hx => by rw [pFold_succ]; exact pStep_keep i x (pFold_keep k i x hi hx) hx
theorem pieceGo_keep {oth : Nat → Nat → Nat × Nat} {nn : Int} : ∀ (f : Nat) (s : List Int × List Nat) (k : Nat), Keep s.1 (pieceGo oth nn f s k)
  | 0, s, k => fun _ _ h _ => h
  | f + 1, s, k => by
    intro i x hi hx
    simp only [pieceGo]
    split
    · exact hi
    · exact pieceGo_keep f _ _ i x (pFold_keep 4 i x hi hx) hx
theorem piecesS_num (oth : Nat → Nat → Nat × Nat) (M : Nat) : ∀ i, i ≤ M → Num (piecesS oth M i).2 (piecesS oth M i).1 ∧ ∀ j, j < i → ∃ x, (piecesS oth M i).1[j]? = some x ∧ 0 ≤ x
  | 0, _ => ⟨fun x hx => by simp [piecesS] at hx; exact .inl hx.2, fun j hj => by omega⟩
  | i + 1, hi => by
    obtain ⟨h1, h2⟩ := piecesS_num oth M i (by omega)
    have hn := piecesS_n oth M i
    have hl := piecesS_len oth M i
    obtain ⟨x, hx⟩ : ∃ x, (piecesS oth M i).1[i]? = some x := ⟨_, List.getElem?_eq_getElem (by omega)⟩
    rw [piecesS_succ, pieceStep, hx, Option.getD_some]
    by_cases h0 : 0 ≤ x
    · rw [if_pos h0]
      refine ⟨h1, fun j hj => ?_⟩
      by_cases hji : j < i
      · exact h2 j hji
      · have : j = i := by omega
        subst this; exact ⟨x, hx, h0⟩
    · rw [if_neg h0]
      have hset : Num ((piecesS oth M i).2 + 1) ((piecesS oth M i).1.set i (piecesS oth M i).2) := by
        intro y hy
        rcases mem_set' hy with rfl | hy
        · exact .inr ⟨hn.1, by omega⟩
        · rcases h1 y hy with h | h
          · exact .inl h
          · exact .inr ⟨h.1, by omega⟩
      refine ⟨pieceGo_num hn.1 _ _ _ hset, fun j hj => ?_⟩
      by_cases hji : j < i
      · obtain ⟨y, hy, hy0⟩ := h2 j hji
        exact ⟨y, pieceGo_keep _ _ _ j y (by dsimp only; rw [List.getElem?_set_ne (by omega)]; exact hy) hy0, hy0⟩
      · have : j = i := by omega
        subst this
        exact ⟨(piecesS oth M j).2, pieceGo_keep _ _ _ j _ (by dsimp only; rw [List.getElem?_set_self (by omega)]) hn.1, hn.1⟩
theorem piecesS_ok (oth : Nat → Nat → Nat × Nat) (M : Nat) {j : Nat} (hj : j < M) : ∃ k : Nat, (piecesS oth M M).1[j]? = some (k : Int) ∧ (k : Int) < (piecesS oth M M).2 := by
  obtain ⟨h1, h2⟩ := piecesS_num oth M M (Nat.le_refl _)
  obtain ⟨x, hx, hx0⟩ := h2 j hj
  rcases h1 x (List.mem_of_getElem? hx) with h | h
  · omega
  · exact ⟨x.toNat, by rw [hx]; congr 1; omega, by omega⟩

/-! ### for each piece, 2 and the crossings less the regions -/
def bump (d : Int) (l : List Int) (k : Int) : List Int := l.set k.toNat ((l[k.toNat]?).getD 0 + d)
def bumps (d : Int) (l : List Int) (ks : List Int) : List Int := ks.foldl (bump d) l
theorem bump_len (d : Int) (l : List Int) (k : Int) : (bump d l k).length = l.length := by simp [bump]
theorem bumps_len (d : Int) : ∀ (ks : List Int) (l : List Int), (bumps d l ks).length = l.length
  | [], _ => rfl
  | k :: ks, l => by simp only [bumps, List.foldl_cons]; rw [← bump_len d l k]; exact bumps_len d ks _
/-- All numbers are small. -/
def Bd (b : Int) (l : List Int) : Prop := ∀ x ∈ l, -b ≤ x ∧ x ≤ b
theorem bump_bd {d b : Int} {l : List Int} {k : Int} (h : Bd b l) (hd : -1 ≤ d ∧ d ≤ 1) (hb : 0 ≤ b) : Bd (b + 1) (bump d l k) := by
  intro x hx
  rcases mem_set' hx with rfl | hx
  · cases hg : l[k.toNat]? with
    | none => simp; omega
    | some y =>
      have := h y (List.mem_of_getElem? hg)
      simp; omega
  · have := h x hx; omega
theorem bumps_bd {d : Int} (hd : -1 ≤ d ∧ d ≤ 1) : ∀ (ks : List Int) (l : List Int) (b : Int), 0 ≤ b → Bd b l → Bd (b + ks.length) (bumps d l ks)
  | [], l, b, _, h => by simpa [bumps] using h
  | k :: ks, l, b, hb, h => by
    have := bumps_bd hd ks (bump d l k) (b + 1) (by omega) (bump_bd h hd hb)
    simp only [bumps, List.foldl_cons] at this ⊢
    intro x hx
    have := this x hx
    simp; omega
/-- The piece of the first place of each region. -/
def regPieces (of : List Int) (rs : List (List Pl)) : List Int := rs.map fun r => (of[(r.head?.getD (0, 0)).1]?).getD 0
def leftS (xs : List X) : List Int :=
  let P := piecesS (othS xs) xs.length xs.length
  bumps (-1) (bumps 1 (List.replicate P.2.toNat 2) P.1) (regPieces P.1 (regionsS (othS xs) (4 * xs.length) xs.length))
/-- The error of a diagram. -/
def enterS (xs : List X) (loops : Int) : Int :=
  match endsS xs loops with
  | none => 220
  | some _ => if (leftS xs).all (· == 0) then 0 else 221
def diaBlocks (h : List ABlk) (a : Option Ad) (c : Cap) (xs : List X) (loops : Int) : List ABlk :=
  [.row false [.sl a xs.length c, I loops, .sl (some ⟨h.length + 1, (arcsS xs).length * 4, 0⟩) (arcsS xs).length (.k (arcsS xs).length)], .row false ((arcsS xs).flatMap E.cells)]

end Go.Proofs.Ytocoadpepofbbaa.AM

/-
  THE PACKAGE diag, part 9: enter, and what calls it.
-/
set_option linter.unusedVariables false
set_option linter.unusedSimpArgs false
set_option maxRecDepth 10000
namespace Go.Proofs.Ytocoadpepofbbaa.AM
open Go

section
variable {Q : ExK} {h : List ABlk} {B0 B1 B2 B3 : ABlk} {K : Nat} {e : List AV} {v6 v7 : AV}
abbrev L9 (h : List ABlk) (K : Nat) : AV := .sl (some ⟨h.length + 4, K, 0⟩) K (.k K)

theorem c179_l0_wp (hK : K ≤ 1000) (e6 : eget e 6 = v6) (e7 : eget e 7 = v7) (e9 : eget e 9 = L9 h K) (e36 : eget e 36 = I K) (e37 : eget e 37 = I 0)
    (hQ : ∀ e', eget e' 6 = v6 → eget e' 7 = v7 → eget e' 9 = L9 h K → Q .normal e' (h ++ [B0, B1, B2, B3, .row false (List.replicate K (I 2))]) (M0 h)) :
    wp PR h.length false (.loop c179_l0) e (h ++ [B0, B1, B2, B3, .row false (List.replicate K (I 0))]) (M0 h) (onBlk 0 Q) := by
  refine wp_range (n := K) (fun i e h' m => eget e 6 = v6 ∧ eget e 7 = v7 ∧ eget e 9 = L9 h K ∧ eget e 36 = I K ∧
    h' = h ++ [B0, B1, B2, B3, .row false (fillS K i (I 2) (I 0))] ∧ m = M0 h) (by omega) (by simp) ?_ ?_ (by simp [e6, e7, e9, e36]) e37 ?_ ?_
  · rintro i e h m t v (rfl | rfl | rfl) hJ <;> simpa using hJ
  · rintro i e h m ⟨_, _, _, e36, _⟩; exact e36
  · rintro i e _ _ hi ⟨e6, e7, e9, e36, rfl, rfl⟩ e37
    have hl : (fillS K i (I 2) (I 0)).length = K := fillS_len (by omega)
    simp [e6, e7, e9, e36, e37, hi, fillS_set hi, hl]; omega
  · rintro e h m ⟨e6, e7, e9, e36, rfl, rfl⟩
    simpa using hQ _ e6 e7 e9

theorem bumps_succ (d : Int) (l ks : List Int) {i : Nat} {k : Int} (hk : ks[i]? = some k) : bumps d l (ks.take (i + 1)) = bump d (bumps d l (ks.take i)) k := by
  rw [bumps, List.take_add_one, hk, Option.toList_some, List.foldl_append]; rfl

/-- The loop that counts the crossings. -/
theorem c179_l1_wp {P : List Int} {n : Nat} (hn : P.length = n) (hn2 : n ≤ 1000) (hK : K ≤ 1000) (hP : ∀ i, i < n → ∃ k : Nat, P[i]? = some (k : Int) ∧ k < K) (e6 : eget e 6 = v6) (e7 : eget e 7 = SL (h.length + 3) n) (e9 : eget e 9 = L9 h K) (e44 : eget e 44 = SL (h.length + 3) n) (e45 : eget e 45 = I n) (e46 : eget e 46 = I 0)
    (hQ : ∀ e', eget e' 6 = v6 → eget e' 7 = SL (h.length + 3) n → eget e' 9 = L9 h K → Q .normal e' (h ++ [B0, B1, B2, .row false (P.map I), .row false ((bumps 1 (List.replicate K 2) P).map I)]) (M0 h)) :
    wp PR h.length false (.loop c179_l1) e (h ++ [B0, B1, B2, .row false (P.map I), .row false (List.replicate K (I 2))]) (M0 h) (onBlk 2 Q) := by
  refine wp_range (n := n) (fun i e h' m => eget e 6 = v6 ∧ eget e 7 = SL (h.length + 3) n ∧ eget e 9 = L9 h K ∧ eget e 44 = SL (h.length + 3) n ∧ eget e 45 = I n ∧
    h' = h ++ [B0, B1, B2, .row false (P.map I), .row false ((bumps 1 (List.replicate K 2) (P.take i)).map I)] ∧ m = M0 h) (by omega) (by simp) ?_ ?_ (by simp [e6, e7, e9, e44, e45, bumps]) e46 ?_ ?_
  · rintro i e h m t v (rfl | rfl | rfl) hJ <;> simpa using hJ
  · rintro i e h m ⟨_, _, _, _, e45, _⟩; exact e45
  · rintro i e _ _ hi ⟨e6, e7, e9, e44, e45, rfl, rfl⟩ e46
    obtain ⟨k, hk, hkK⟩ := hP i hi
    have hs := bumps_succ 1 (List.replicate K 2) P hk
    have hbd := bumps_bd (d := 1) (by omega) (P.take i) (List.replicate K 2) 2 (by omega) (by intro x hx; simp at hx; omega)
    have hl : (bumps 1 (List.replicate K 2) (P.take i)).length = K := by rw [bumps_len]; simp
    obtain ⟨T, hT⟩ : ∃ T, T = bumps 1 (List.replicate K 2) (P.take i) := ⟨_, rfl⟩
    rw [← hT] at hs hbd hl ⊢
    obtain ⟨y, hy⟩ : ∃ y, T[k]? = some y := ⟨_, List.getElem?_eq_getElem (by omega)⟩
    have hyb := hbd y (List.mem_of_getElem? hy)
    simp at hyb
    have hw : IntKind.i64.wrap (y + 1) = y + 1 := wrap64 (by omega) (by omega)
    have hk1 : k + 1 ≤ K := hkK
    simp [e6, e7, e9, e44, e45, e46, hi, hn, hk, hkK, hl, hy, hw, hk1, hs, bump, List.map_set, -getElem?_pos]
  · rintro e h m ⟨e6, e7, e9, e44, e45, rfl, rfl⟩
    have := hQ _ e6 e7 e9
    rwa [← hn, List.take_length]

theorem rwAt_get : ∀ {bs : List Nat} {rs : List Rw} {i b : Nat} {r : Rw}, bs[i]? = some b → rs[i]? = some r → (rwAt bs rs)[i]? = some (r.at b)
  | [], _, i, b, r, h, _ => by simp at h
  | _ :: _, [], i, b, r, _, h => by simp at h
  | c :: bs, s :: rs, 0, b, r, h1, h2 => by simp at h1 h2; subst h1 h2; rfl
  | c :: bs, s :: rs, i + 1, b, r, h1, h2 => by simpa [rwAt] using rwAt_get (bs := bs) (rs := rs) (by simpa using h1) (by simpa using h2)

/-- The blocks of a list of lists that has been returned. -/
def llBlks (n : Nat) (rs : List Rw) : List ABlk := if rs = [] then [] else .row false (rwAt (List.range' (n + 1) rs.length) rs) :: rs.map fun r => .row false r.1
def llVal (n : Nat) (rs : List Rw) : AV := if rs = [] then nilSl else .sl (some ⟨n, rs.length, 0⟩) rs.length (.u 1)
@[simp] theorem vLen_ll (n : Nat) (rs : List Rw) : vLen (llVal n rs) = some (.int .i64 rs.length) := by
  unfold llVal
  split
  · rename_i h; subst h; rfl
  · rfl
theorem llRet_eq (h : List ABlk) (rs : List Rw) : llRet h rs = (llVal h.length rs, h ++ llBlks h.length rs) := by
  unfold llRet llVal llBlks
  split <;> simp

/-- The loop that counts the regions. -/
theorem c179_l2_wp {P T0 : List Int} {n : Nat} (hn : P.length = n) (hn2 : n ≤ 1000) (hK : K ≤ 1000) (hT0 : T0.length = K) (hTb : Bd 2000 T0) (hP : ∀ i, i < n → ∃ k : Nat, P[i]? = some (k : Int) ∧ k < K)
    {rs : List (List Pl)} (hrs : rs.length ≤ 4000) (hr : ∀ r ∈ rs, ∃ q t, r = q :: t ∧ q.1 < n)
    (e6 : eget e 6 = v6) (e7 : eget e 7 = SL (h.length + 3) n) (e9 : eget e 9 = L9 h K) (e58 : eget e 58 = llVal (h.length + 5) (rs.map rwOf)) (e59 : eget e 59 = I rs.length) (e60 : eget e 60 = I 0)
    (hQ : ∀ e', eget e' 6 = v6 → eget e' 7 = SL (h.length + 3) n → eget e' 9 = L9 h K → Q .normal e' (h ++ (B0 :: B1 :: B2 :: .row false (P.map I) :: .row false ((bumps (-1) T0 (regPieces P rs)).map I) :: llBlks (h.length + 5) (rs.map rwOf))) (M0 h)) :
    wp PR h.length false (.loop c179_l2) e (h ++ (B0 :: B1 :: B2 :: .row false (P.map I) :: .row false (T0.map I) :: llBlks (h.length + 5) (rs.map rwOf))) (M0 h) (onBlk 4 Q) := by
  refine wp_range (n := rs.length) (fun i e h' m => eget e 6 = v6 ∧ eget e 7 = SL (h.length + 3) n ∧ eget e 9 = L9 h K ∧ eget e 58 = llVal (h.length + 5) (rs.map rwOf) ∧ eget e 59 = I rs.length ∧
    h' = h ++ (B0 :: B1 :: B2 :: .row false (P.map I) :: .row false ((bumps (-1) T0 ((regPieces P rs).take i)).map I) :: llBlks (h.length + 5) (rs.map rwOf)) ∧ m = M0 h) (by omega) (by simp) ?_ ?_ (by simp [e6, e7, e9, e58, e59, bumps]) e60 ?_ ?_
  · rintro i e h m t v (rfl | rfl | rfl) hJ <;> simpa using hJ
  · rintro i e h m ⟨_, _, _, _, e45, _⟩; exact e45
  · rintro i e _ _ hi ⟨e6, e7, e9, e58, e59, rfl, rfl⟩ e60
    obtain ⟨r, hri⟩ : ∃ r, rs[i]? = some r := ⟨_, List.getElem?_eq_getElem hi⟩
    obtain ⟨q, t, rfl, hq⟩ := hr r (List.mem_of_getElem? hri)
    obtain ⟨k, hk, hkK⟩ := hP q.1 hq
    have hne : rs.map rwOf ≠ [] := by intro h; simp at h; subst h; simp at hi
    have hv : llVal (h.length + 5) (rs.map rwOf) = .sl (some ⟨h.length + 5, rs.length, 0⟩) rs.length (.u 1) := by simp only [llVal, if_neg hne, List.length_map]
    have hb : llBlks (h.length + 5) (rs.map rwOf) = .row false (rwAt (List.range' (h.length + 6) rs.length) (rs.map rwOf)) :: (rs.map rwOf).map fun r => .row false r.1 := by simp only [llBlks, if_neg hne, List.length_map]
    rw [hv] at e58
    have hrk : (regPieces P rs)[i]? = some (k : Int) := by simp [regPieces, hri, hk]
    have hs := bumps_succ (-1) T0 (regPieces P rs) hrk
    have hbd := bumps_bd (d := -1) (by omega) ((regPieces P rs).take i) T0 2000 (by omega) hTb
    have hl : (bumps (-1) T0 ((regPieces P rs).take i)).length = K := by rw [bumps_len, hT0]
    have hll : ((regPieces P rs).take i).length ≤ 4000 := by simp [regPieces]; omega
    obtain ⟨T, hT⟩ : ∃ T, T = bumps (-1) T0 ((regPieces P rs).take i) := ⟨_, rfl⟩
    rw [← hT] at hs hbd hl ⊢
    obtain ⟨y, hy⟩ : ∃ y, T[k]? = some y := ⟨_, List.getElem?_eq_getElem (by omega)⟩
    have hyb := hbd y (List.mem_of_getElem? hy)
    have hw : IntKind.i64.wrap (y - 1) = y - 1 := wrap64 (by omega) (by omega)
    have hk1 : k + 1 ≤ K := hkK
    have hat : (rwAt (List.range' (h.length + 6) rs.length) (rs.map rwOf))[i]? = some ((rwOf (q :: t)).at (h.length + 6 + i)) := rwAt_get (by rw [List.getElem?_range' (by omega)]; simp) (by simp [hri])
    have hlen : (rwAt (List.range' (h.length + 6) rs.length) (rs.map rwOf)).length = rs.length := by rw [rwAt_len (by simp)]; simp
    have hrow : ∀ L, (h ++ (B0 :: B1 :: B2 :: .row false (P.map I) :: L :: llBlks (h.length + 5) (rs.map rwOf)))[h.length + 6 + i]? = some (.row false ((q :: t).flatMap plC)) := by
      intro L
      rw [Nat.add_assoc, hget_new, hb]
      have : 6 + i = i + 1 + 1 + 1 + 1 + 1 + 1 := by omega
      rw [this]
      simp [hri, rwOf]
    have hrow5 : ∀ L, (h ++ (B0 :: B1 :: B2 :: .row false (P.map I) :: L :: llBlks (h.length + 5) (rs.map rwOf)))[h.length + 5]? = some (.row false (rwAt (List.range' (h.length + 6) rs.length) (rs.map rwOf))) := by
      intro L; rw [hget_new, hb]; rfl
    have hfl : (t.flatMap plC).length = t.length * 2 := flatMap_len _ 2 (fun _ => rfl) _
    simp [e6, e7, e9, e58, e59, e60, hi, hn, hrow5, hrow, hlen, hat, Rw.at, rwOf, plC, hfl, hk, hq, hkK, hl, hy, hw, hk1, hs, bump, List.map_set, -getElem?_pos]
    exact ⟨hv.symm, by rw [Int.sub_eq_add_neg]⟩
  · rintro e h m ⟨e6, e7, e9, e58, e59, rfl, rfl⟩
    have := hQ _ e6 e7 e9
    have hl : (regPieces P rs).length = rs.length := by simp [regPieces]
    rwa [← hl, List.take_length]

theorem c179_l3_wp {H : List ABlk} {T : List Int} (hK : K ≤ 1000) (hT : T.length = K) (hH : H[h.length + 4]? = some (.row false (T.map I))) (e6 : eget e 6 = v6) (e77 : eget e 77 = L9 h K) (e78 : eget e 78 = I K) (e79 : eget e 79 = I 0)
    (hQ : ∀ e', T.all (· == 0) = true → eget e' 6 = v6 → Q .normal e' H (M0 h)) (hR : ∀ e', T.all (· == 0) = false → eget e' 2 = .ptr none → eget e' 3 = I 221 → Q .ret e' H (M0 h)) :
    wp PR h.length false (.loop c179_l3) e H (M0 h) (onBlk 6 Q) := by
  refine wp_range (n := K) (fun i e h' m => eget e 6 = v6 ∧ eget e 77 = L9 h K ∧ eget e 78 = I K ∧ h' = H ∧ m = M0 h ∧ ∀ j, j < i → T[j]? = some 0) (by omega) (by simp) ?_ ?_ ?_ e79 ?_ ?_
  · rintro i e h m t v (rfl | rfl | rfl) hJ <;> simpa using hJ
  · rintro i e h m ⟨_, _, e78, _⟩; exact e78
  · exact ⟨e6, e77, e78, rfl, rfl, fun j hj => by omega⟩
  · rintro i e _ _ hi ⟨e6, e77, e78, rfl, rfl, hz⟩ e79
    obtain ⟨y, hy⟩ : ∃ y, T[i]? = some y := ⟨_, List.getElem?_eq_getElem (by omega)⟩
    by_cases h0 : y = 0
    · simp [e6, e77, e78, e79, hi, hH, hT, hy, h0, -getElem?_pos]
      intro j hj
      by_cases hji : j < i
      · exact hz j hji
      · have : j = i := by omega
        subst this; rw [hy, h0]
    · simp [e6, e77, e78, e79, hi, hH, hT, hy, h0, -getElem?_pos]
      refine hR _ ?_ ?_ ?_
      · rw [List.all_eq_false]
        exact ⟨y, List.mem_of_getElem? hy, by simpa using h0⟩
      · simp
      · simp
  · rintro e h m ⟨e6, e77, e78, rfl, rfl, hz⟩
    refine hQ _ ?_ e6
    rw [List.all_eq_true]
    intro y hy
    obtain ⟨j, hj⟩ := List.mem_iff_getElem?.mp hy
    have := hz j (by have := lt_get hj; omega)
    rw [hj] at this
    simp at this
    simp [this]

end

/-- What enter returns. -/
def enterR (h : List ABlk) (a : Option Ad) (c : Cap) (xs : List X) (loops : Int) : Ret :=
  if enterS xs loops = 0 then ⟨.tup [.ptr (some ⟨h.length, 3, 0⟩), I 0], h ++ diaBlocks h a c xs loops, [], none⟩ else ⟨.tup [.ptr none, I (enterS xs loops)], h, [], none⟩

theorem regGo_head {nx : Pl → Pl} {e x : Pl} : ∀ {F : Nat}, 0 < F → ∃ t, regGo nx e F x = x :: t
  | 0, h => by omega
  | F + 1, _ => ⟨_, rfl⟩
theorem regPs_heads {nx : Pl → Pl} {F i n : Nat} (hF : 0 < F) (hi : i < n) {s : List (Pl × Unit) × List (List Pl)} (hs : ∀ r ∈ s.2, ∃ q t, r = q :: t ∧ q.1 < n) : ∀ k, ∀ r ∈ (regPs nx F i s k).2, ∃ q t, r = q :: t ∧ q.1 < n
  | 0 => hs
  | k + 1 => by
    rw [regPs_succ, regP]
    split
    · exact regPs_heads hF hi hs k
    · intro r hr
      rcases List.mem_append.mp hr with hr | hr
      · exact regPs_heads hF hi hs k r hr
      · simp at hr
        subst hr
        obtain ⟨t, ht⟩ := regGo_head (nx := nx) (e := (i, k)) (x := (i, k)) hF
        exact ⟨_, t, ht, hi⟩
theorem regXs_heads {nx : Pl → Pl} {F n : Nat} (hF : 0 < F) : ∀ k, k ≤ n → ∀ r ∈ (regXs nx F k).2, ∃ q t, r = q :: t ∧ q.1 < n
  | 0, _ => by simp [regXs]
  | k + 1, hk => by rw [regXs_succ]; exact regPs_heads hF (by omega) (regXs_heads hF k (by omega)) 4

theorem SlAt.lt {h : List ABlk} {a : Option Ad} {n size : Nat} {cs : List AV} (H : SlAt h a n size cs) (hn : 0 < n) : ∀ p, a = some p → p.b < h.length := by
  obtain ⟨b, ro, rfl, _, hb, _⟩ := H.get hn
  intro p hp
  cases hp
  exact AM.hlt hb

theorem enter_c {h : List ABlk} {a : Option Ad} {c : Cap} {xs : List X} {loops : Int} (hA : SlAt h a xs.length 5 (xs.flatMap X.cells)) (ha : ∀ p, a = some p → p.b < h.length) :
    Ends PR (.f 179) [.agg [.sl a xs.length c, I loops]] h (enterR h a c xs loops) := by
  have hends : ∀ l, Ends PR (.f 249) [.agg [.sl a xs.length c, I loops]] (h ++ l) (endsR (h ++ l) (endsS xs loops)) := fun l => ends_c ⟨a, c, rfl, hA.ext⟩
  refine ends_of p179 (by simp [c179]) ?_
  rcases hE : endsS xs loops with _ | es
  · simp only [hE, endsR] at hends
    simp [c179, ends_eq (hends _), nilSl, enterR, enterS, hE, gc_none]
  · obtain ⟨g1, g2, g3, S, rfl⟩ := endsS_some hE
    simp only [hE, endsR] at hends
    have hD : ∀ l, DP (h ++ (.row false [.sl a xs.length c, I loops] :: .row false ((arcsS xs).flatMap E.cells) :: .row false [.sl a xs.length c, I loops, .sl (some ⟨h.length + 1, (arcsS xs).length * 4, 0⟩) (arcsS xs).length (.k (arcsS xs).length)] :: l))
        (.ptr (some ⟨h.length + 2, 3, 0⟩)) xs loops (arcsS xs) := by
      intro l
      refine ⟨h.length + 2, false, a, c, some ⟨h.length + 1, (arcsS xs).length * 4, 0⟩, .k (arcsS xs).length, rfl, by rw [hget_new]; rfl, hA.ext, ?_, ?_⟩
      · exact flatMap_len _ 4 (fun _ => rfl) _
      · exact .inr ⟨_, false, rfl, by rw [hget_new]; rfl⟩
    have hO := S.othOk (.ptr (some ⟨h.length + 2, 3, 0⟩)) loops
    have hpc := fun l => pieces_c (hD l) hO (by omega)
    have hrg := fun l => regions_c (hD l) hO (by omega) (F := 4 * xs.length) (by omega) (fun x h1 h2 => S.stops (mem_places.mpr ⟨h1, h2⟩))
    simp only [llRet_eq] at hrg
    obtain ⟨P, hP⟩ : ∃ P, P = piecesS (othS xs) xs.length xs.length := ⟨_, rfl⟩
    have hPn := piecesS_n (othS xs) xs.length xs.length
    have hPl := piecesS_len (othS xs) xs.length xs.length
    have hPo := fun j hj => piecesS_ok (othS xs) xs.length (j := j) hj
    rw [← hP] at hPn hPl hPo hpc
    obtain ⟨K, hK⟩ : ∃ K : Nat, P.2 = K := ⟨P.2.toNat, by omega⟩
    have hK1 : K ≤ 1000 := by omega
    have w1 : IntKind.i64.wrap (K : Int) = K := wrap64 (by omega) (by omega)
    have w2 : (8 : Int) * K ≤ 281474976710656 := by omega
    have hPo' : ∀ i, i < xs.length → ∃ k : Nat, P.1[i]? = some (k : Int) ∧ k < K := fun i hi => by
      obtain ⟨k, h1, h2⟩ := hPo i hi
      exact ⟨k, h1, by omega⟩
    simp [c179, ends_eq (hends _), ends_eq (hpc _), hK, w1, w2]
    have hrs : (regionsS (othS xs) (4 * xs.length) xs.length).length ≤ 4000 := by have := regXs_len (nextPl (othS xs)) (4 * xs.length) xs.length; simp only [regionsS]; omega
    have hrh : ∀ r ∈ regionsS (othS xs) (4 * xs.length) xs.length, ∃ q t, r = q :: t ∧ q.1 < xs.length := by
      by_cases h0 : xs.length = 0
      · rw [h0]; simp [regionsS, regXs]
      · exact regXs_heads (by omega) _ (Nat.le_refl _)
    obtain ⟨R, hR⟩ : ∃ R, R = regionsS (othS xs) (4 * xs.length) xs.length := ⟨_, rfl⟩
    rw [← hR] at hrs hrh hrg
    have hleft : leftS xs = bumps (-1) (bumps 1 (List.replicate K 2) P.1) (regPieces P.1 R) := by simp only [leftS, ← hP, ← hR, hK]; rfl
    refine c179_l0_wp (v6 := .ptr (some ⟨h.length + 2, 3, 0⟩)) (v7 := SL (h.length + 3) xs.length) hK1 rfl rfl rfl rfl rfl ?_
    intro e f6 f7 f9
    simp [f6, f7, f9]
    refine c179_l1_wp (v6 := .ptr (some ⟨h.length + 2, 3, 0⟩)) hPl (by omega) hK1 hPo' ?_ ?_ ?_ ?_ ?_ ?_ ?_
    · simp [f6]
    · simp [f7]
    · simp [f9]
    · simp
    · simp
    · simp
    intro e f6 f7 f9
    simp [f6, f7, f9, ends_eq (hrg _)]
    refine c179_l2_wp (v6 := .ptr (some ⟨h.length + 2, 3, 0⟩)) hPl (by omega) hK1 (T0 := bumps 1 (List.replicate K 2) P.1) ?_ ?_ hPo' hrs hrh ?_ ?_ ?_ ?_ ?_ ?_ ?_
    · rw [bumps_len]; simp
    · have := bumps_bd (d := 1) (by omega) P.1 (List.replicate K 2) 2 (by omega) (by intro x hx; simp at hx; omega)
      intro x hx
      have := this x hx
      omega
    · simp [f6]
    · simp [f7]
    · simp [f9]
    · simp
    · simp
    · simp
    intro e f6 f7 f9
    rw [← hleft]
    have hlK : (leftS xs).length = K := by rw [hleft, bumps_len, bumps_len]; simp
    simp [f6, f7, f9]
    refine c179_l3_wp (v6 := .ptr (some ⟨h.length + 2, 3, 0⟩)) hK1 hlK ?_ ?_ ?_ ?_ ?_ ?_ ?_
    · rw [hget_new]; rfl
    · simp [f6]
    · simp
    · simp
    · simp
    · intro e hz f6
      have hes : enterS xs loops = 0 := by simp only [enterS, hE, hz, if_true]
      simp [f6, enterR, hes]
      have hEr : refsL ((arcsS xs).flatMap E.cells) = [] := refsL_flat (fun x => E.cells_refs x) _
      cases a with
      | none => refine gc_chain (i := 2) (j := 1) (ro := false) (ro' := false) (by omega) ?_ rfl ?_ rfl hEr ?_ ?_ <;> simp
      | some p =>
        have hp := ha p rfl
        refine gc_chain (i := 2) (j := 1) (ro := false) (ro' := false) (by omega) ?_ rfl ?_ rfl hEr ?_ ?_ <;> simp [hp]
    · intro e hz f2 f3
      have hes : enterS xs loops = 221 := by simp only [enterS, hE, hz]; rfl
      simp [f2, f3, enterR, hes, gc_none]

/-- The slice of a diagram that came in. -/
def DiaIn (h : List ABlk) (v : AV) (xs : List X) (loops : Int) : Prop :=
  ∃ a c, v = .agg [.sl a xs.length c, I loops] ∧ SlAt h a xs.length 5 (xs.flatMap X.cells) ∧ ∀ p, a = some p → p.b < h.length
theorem DiaIn.ext {h l : List ABlk} {v : AV} {xs : List X} {loops : Int} (H : DiaIn h v xs loops) : DiaIn (h ++ l) v xs loops := by
  obtain ⟨a, c, hv, h1, h2⟩ := H
  exact ⟨a, c, hv, h1.ext, fun p hp => by have := h2 p hp; simp; omega⟩

theorem check_c {h : List ABlk} {v : AV} {xs : List X} {loops : Int} (H : DiaIn h v xs loops) : Ends PR (.f 101) [v] h ⟨I (enterS xs loops), h, [], none⟩ := by
  obtain ⟨a, c, rfl, hA, ha⟩ := H
  have hen : ∀ l, Ends PR (.f 179) [.agg [.sl a xs.length c, I loops]] (h ++ l) (enterR (h ++ l) a c xs loops) := fun l => enter_c hA.ext (fun p hp => by have := ha p hp; simp; omega)
  refine ends_of p101 (by simp [c101]) ?_
  by_cases h0 : enterS xs loops = 0
  · simp only [enterR, if_pos h0] at hen
    simp [c101, ends_eq (hen _), gc_none, h0]
  · simp only [enterR, if_neg h0] at hen
    simp [c101, ends_eq (hen _), gc_none]

end Go.Proofs.Ytocoadpepofbbaa.AM

/-
  THE PACKAGE diag, part 10: Components and Regions.
-/
set_option linter.unusedVariables false
set_option linter.unusedSimpArgs false
set_option maxRecDepth 10000
namespace Go.Proofs.Ytocoadpepofbbaa.AM
open Go

theorem gc_with {lo : Nat} {v v' w : AV} {h h' : List ABlk} (f : AV → AV) (hr : refs w = refs v) (hf : ∀ ρ u, ren ρ v = some u → ren ρ w = some (f u)) (hg : gc lo v h = some (v', h')) : gc lo w h = some (f v', h') := by
  simp only [gc] at hg ⊢
  rw [hr]
  split at hg
  · rename_i u ks h1 h2
    cases hg
    rw [hf _ _ h1, h2]
  · cases hg
theorem gc_tup1 {lo : Nat} {v v' : AV} {k : IntKind} {n : Int} {h h' : List ABlk} (hg : gc lo v h = some (v', h')) : gc lo (.tup [v, .int k n]) h = some (.tup [v', .int k n], h') :=
  gc_with (fun u => .tup [u, .int k n]) (by simp) (fun ρ u hu => by simp [hu]) hg
theorem gc_tup2 {lo : Nat} {v v' : AV} {k k' : IntKind} {n n' : Int} {h h' : List ABlk} (hg : gc lo v h = some (v', h')) : gc lo (.tup [v, .int k n, .int k' n']) h = some (.tup [v', .int k n, .int k' n'], h') :=
  gc_with (fun u => .tup [u, .int k n, .int k' n']) (by simp) (fun ρ u hu => by simp [hu]) hg

theorem rwIn_range {h : List ABlk} : ∀ {rs : List Rw} {n : Nat}, (∀ i r, rs[i]? = some r → h[n + i]? = some (.row false r.1)) → rwIn h (List.range' n rs.length) rs
  | [], _, _ => trivial
  | r :: rs, n, H => by
    rw [List.length_cons, List.range'_succ]
    refine ⟨by simpa using H 0 r rfl, rwIn_range (n := n + 1) fun i r' hi => ?_⟩
    have := H (i + 1) r' (by simpa using hi)
    rwa [show n + 1 + i = n + (i + 1) by omega]
theorem range'_nodup : ∀ (k n : Nat), (List.range' n k).Nodup := fun k n => List.nodup_range'

theorem llBlks_get {n : Nat} {rs : List Rw} (hne : rs ≠ []) : llBlks n rs = .row false (rwAt (List.range' (n + 1) rs.length) rs) :: rs.map fun r => .row false r.1 := by simp [llBlks, hne]

theorem gc_llVal {h l : List ABlk} {n : Nat} (hn : n = h.length + l.length) {rs : List Rw} (hf : ∀ r ∈ rs, refsL r.1 = []) : gc h.length (llVal n rs) (h ++ (l ++ llBlks n rs)) = some (llVal h.length rs, h ++ llBlks h.length rs) := by
  subst hn
  by_cases hne : rs = []
  · subst hne; simp only [llVal, llBlks, if_true]; simpa using gc_none (h := h) (l := l) (v := nilSl) rfl
  · have hv : ∀ n, llVal n rs = .sl (some ⟨n, rs.length, 0⟩) rs.length (.u 1) := fun n => by simp [llVal, hne]
    rw [hv, hv, llBlks_get hne, llBlks_get hne]
    refine gc_LL (Upd.app _ _ _) (bl := h.length + l.length) (bs := List.range' (h.length + l.length + 1) rs.length) (ro := false) ?_ ?_ hf ⟨by omega, ?_⟩ ?_
    · rw [hget_new, hget_at0 rfl]; rfl
    · refine rwIn_range fun i r hi => ?_
      rw [show h.length + l.length + 1 + i = h.length + (l.length + (i + 1)) by omega, hget_new, hget_new]
      simp [hi]
    · intro b hb
      rw [List.mem_range'_1] at hb; omega
    · rw [List.nodup_cons]
      exact ⟨fun hb => by rw [List.mem_range'_1] at hb; omega, List.nodup_range'⟩

def compsS (xs : List X) : List Int × Int := comps (nxtS xs) (2 * xs.length) (2 * xs.length)
def regsS (xs : List X) : List (List Pl) := regionsS (othS xs) (4 * xs.length) xs.length

theorem DP_dia {h : List ABlk} {a : Option Ad} {c : Cap} {xs : List X} {loops : Int} (hA : SlAt h a xs.length 5 (xs.flatMap X.cells)) (l : List ABlk) :
    DP (h ++ (diaBlocks h a c xs loops ++ l)) (.ptr (some ⟨h.length, 3, 0⟩)) xs loops (arcsS xs) := by
  refine ⟨h.length, false, a, c, some ⟨h.length + 1, (arcsS xs).length * 4, 0⟩, .k (arcsS xs).length, rfl, by rw [hget_new0]; rfl, hA.ext, ?_, ?_⟩
  · exact flatMap_len _ 4 (fun _ => rfl) _
  · exact .inr ⟨_, false, rfl, by rw [hget_new]; rfl⟩

theorem enterS_zero {xs : List X} {loops : Int} (h : enterS xs loops = 0) : endsS xs loops = some (arcsS xs) ∧ xs.length ≤ 200 ∧ 0 ≤ loops ∧ loops ≤ 200 ∧ Snd xs := by
  unfold enterS at h
  split at h
  · omega
  · rename_i es hE
    obtain ⟨g1, g2, g3, S, rfl⟩ := endsS_some hE
    exact ⟨hE, g1, g2, g3, S⟩

theorem Components_c {h : List ABlk} {v : AV} {xs : List X} {loops : Int} (H : DiaIn h v xs loops) : Ends PR (.f 104) [v] h
    (if enterS xs loops = 0 then ⟨.tup [SL h.length (2 * xs.length), I ((compsS xs).2 + loops), I 0], h ++ [.row false ((compsS xs).1.map I)], [], none⟩ else ⟨.tup [nilSl, I 0, I (enterS xs loops)], h, [], none⟩) := by
  obtain ⟨a, c, rfl, hA, ha⟩ := H
  have hen : ∀ l, Ends PR (.f 179) [.agg [.sl a xs.length c, I loops]] (h ++ l) (enterR (h ++ l) a c xs loops) := fun l => enter_c hA.ext (fun p hp => by have := ha p hp; simp; omega)
  refine ends_of p104 (by simp [c104]) ?_
  by_cases h0 : enterS xs loops = 0
  · simp only [enterR, if_pos h0] at hen
    obtain ⟨hE, g1, g2, g3, S⟩ := enterS_zero h0
    have hlen := arcsS_len xs
    have hco := fun l => components_c (DP_dia (h := h ++ [.row false [.sl a xs.length c, I loops]]) (a := a) (c := c) (loops := loops) hA.ext l) (by omega) S.nextOk
    simp only [hlen] at hco
    have hcn := comps_n (nxtS xs) (2 * xs.length) (2 * xs.length)
    have hw : IntKind.i64.wrap ((compsS xs).2 + loops) = (compsS xs).2 + loops := wrap64 (by unfold compsS; omega) (by unfold compsS; omega)
    have hco' := hco []
    simp only [List.append_nil, List.append_assoc, List.cons_append, List.nil_append, diaBlocks, List.length_append, List.length_cons, List.length_nil] at hco'
    simp [c104, ends_eq (hen _), h0, diaBlocks, ends_eq hco', hw]
    simp only [compsS] at hw ⊢
    rw [hw]
    exact gc_row (j := 3) (ro := false) (by simp) (by simp) refsL_ints (by simp)
  · simp only [enterR, if_neg h0] at hen
    simp [c104, ends_eq (hen _), gc_none, h0, nilSl]

theorem rwOf_flat {rs : List (List Pl)} : ∀ r ∈ rs.map rwOf, refsL r.1 = [] := by
  intro r hr
  obtain ⟨q, _, rfl⟩ := List.mem_map.mp hr
  exact refsL_flat (fun x => plC_refs x) q

theorem Regions_c {h : List ABlk} {v : AV} {xs : List X} {loops : Int} (H : DiaIn h v xs loops) : Ends PR (.f 180) [v] h
    (if enterS xs loops = 0 then ⟨.tup [llVal h.length ((regsS xs).map rwOf), I 0], h ++ llBlks h.length ((regsS xs).map rwOf), [], none⟩ else ⟨.tup [nilSl, I (enterS xs loops)], h, [], none⟩) := by
  obtain ⟨a, c, rfl, hA, ha⟩ := H
  have hen : ∀ l, Ends PR (.f 179) [.agg [.sl a xs.length c, I loops]] (h ++ l) (enterR (h ++ l) a c xs loops) := fun l => enter_c hA.ext (fun p hp => by have := ha p hp; simp; omega)
  refine ends_of p180 (by simp [c180]) ?_
  by_cases h0 : enterS xs loops = 0
  · simp only [enterR, if_pos h0] at hen
    obtain ⟨hE, g1, g2, g3, S⟩ := enterS_zero h0
    have hD := DP_dia (h := h ++ [.row false [.sl a xs.length c, I loops]]) (a := a) (c := c) (loops := loops) hA.ext []
    have hO := S.othOk (.ptr (some ⟨(h ++ [ABlk.row false [.sl a xs.length c, I loops]]).length, 3, 0⟩)) loops
    have hrg := regions_c hD hO (by omega) (F := 4 * xs.length) (by omega) (fun x h1 h2 => S.stops (mem_places.mpr ⟨h1, h2⟩))
    simp only [llRet_eq, List.append_nil, List.append_assoc, List.cons_append, List.nil_append, diaBlocks, List.length_append, List.length_cons, List.length_nil] at hrg
    simp [c180, ends_eq (hen _), h0, diaBlocks, ends_eq hrg]
    refine gc_tup1 ?_
    exact gc_llVal (h := h) (l := [.row false [.sl a xs.length c, I loops], .row false [.sl a xs.length c, I loops, .sl (some ⟨h.length + 1 + 1, (arcsS xs).length * 4, 0⟩) (arcsS xs).length (.k (arcsS xs).length)], .row false ((arcsS xs).flatMap E.cells)]) (by simp) rwOf_flat
  · simp only [enterR, if_neg h0] at hen
    simp [c180, ends_eq (hen _), gc_none, h0, nilSl]

end Go.Proofs.Ytocoadpepofbbaa.AM
