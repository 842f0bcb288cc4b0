/-
  THE PACKAGE diag, part 4: the regions of a diagram.
-/
import Derived.Test.YtocoadpepofbbaaG13
set_option linter.unusedVariables false
set_option linter.unusedSimpArgs false
set_option maxRecDepth 10000
namespace Go.Proofs.Ytocoadpepofbbaa.AM
open Go

abbrev Pl := Nat × Nat
def plC (q : Pl) : List AV := [N q.1, N q.2]
@[simp] theorem plC_length (q : Pl) : (plC q).length = 2 := (rfl)
theorem plC_refs (q : Pl) : refsL (plC q) = [] := by simp [plC]
def plE (m : List (Pl × Unit)) : List (AV × AV) := m.map fun q => (.agg (plC q.1), .bool true)
theorem plC_inj (a b : Pl) (h : codeD (.agg (plC a)) = codeD (.agg (plC b))) : a = b := by
  obtain ⟨a1, a2⟩ := a
  obtain ⟨b1, b2⟩ := b
  simp [codeD, plC, code, codeL, code1] at h
  simp; omega
theorem plE_find (m : List (Pl × Unit)) (q : Pl) : aFind (codeD (.agg (plC q))) (plE m) 0 = (lookIx m q 0).map fun r => (r.1, .bool true) := aFind_map (ke := fun q => .agg (plC q)) (ve := fun _ => .bool true) plC_inj q m 0
theorem plE_put (m : List (Pl × Unit)) (q : Pl) : mput (.agg (plC q)) (.bool true) (plE m) = plE (mset m q ()) := mput_map (ke := fun q => .agg (plC q)) (ve := fun _ => .bool true) plC_inj q () m

/-- The place behind a place in its region. -/
def nextPl (oth : Nat → Nat → Nat × Nat) (x : Pl) : Pl := ((oth x.1 x.2).1, ((oth x.1 x.2).2 + 3) % 4)
def regGo (nx : Pl → Pl) (e : Pl) : Nat → Pl → List Pl
  | 0, _ => []
  | f + 1, x => x :: (if nx x = e then [] else regGo nx e f (nx x))
def stops (nx : Pl → Pl) (e : Pl) : Nat → Pl → Prop
  | 0, _ => False
  | f + 1, x => nx x = e ∨ stops nx e f (nx x)

/-! ### the body of the loop over a region -/
theorem around_c {h : List ABlk} {b : Nat} {ro : Bool} {cs : List AV} (hb : h[b]? = some (.row ro cs)) (q : Pl) :
    Ends PR (.f 274) [.ptr (some ⟨b, 3, 0⟩), .agg (plC q)] h ⟨.fn 279 [.ptr (some ⟨h.length, 2, 0⟩), .ptr (some ⟨h.length + 1, 1, 0⟩)], h ++ [.row false (plC q), .row false [.ptr (some ⟨b, 3, 0⟩)]], [], none⟩ := by
  have hlt := hlt hb
  have hn : ¬ h.length ≤ b := by omega
  refine ends_of p274 (by simp [c274]) ?_
  simp [c274, plC]
  refine gc_row2 (i := 1) (j := 0) (ro := false) (ro' := false) (by omega) (by simp) (by simp) (by simp) (by simp) (by simp [hlt]) ?_
  simp [ren]

def yAssign : ACode := .region [⟨some 9, .new [.int .i64 0, .int .i64 0], none⟩, ⟨none, .store 2 (.t 9) (.t 32), none⟩] [] false
def yBody : ACode := .block 5 (.seq (.region [⟨some 33, .load none (.t 3), none⟩, ⟨some 34, .load (some 2) (.t 9), none⟩, ⟨none, .mapUpd true [some .i64, some .i64] (.t 33) (.t 34) (.c (.bool true)), none⟩] [] false) (.region [⟨some 35, .load none (.t 8), none⟩, ⟨some 36, .load (some 2) (.t 9), none⟩, ⟨some 37, .buildSl [.int .i64 0, .int .i64 0] 1 [(0, (2, .t 36))], none⟩, ⟨some 38, .append 2 16 (.t 35) (.t 37), none⟩, ⟨none, .store 1 (.t 8) (.t 38), none⟩] [] false))

theorem yAssign_wp (base : Nat) (e : List AV) (h : List ABlk) (m : Mt) (Q : ExK) : wp PR base true yAssign e h m Q = wp PR base true (.region [⟨some 9, .new [.int .i64 0, .int .i64 0], none⟩, ⟨none, .store 2 (.t 9) (.t 32), none⟩] [] false) e h m Q := (rfl)
theorem yBody_wp (base : Nat) (e : List AV) (h : List ABlk) (m : Mt) (Q : ExK) : wp PR base true yBody e h m Q = wp PR base true (.block 5 (.seq (.region [⟨some 33, .load none (.t 3), none⟩, ⟨some 34, .load (some 2) (.t 9), none⟩, ⟨none, .mapUpd true [some .i64, some .i64] (.t 33) (.t 34) (.c (.bool true)), none⟩] [] false) (.region [⟨some 35, .load none (.t 8), none⟩, ⟨some 36, .load (some 2) (.t 9), none⟩, ⟨some 37, .buildSl [.int .i64 0, .int .i64 0] 1 [(0, (2, .t 36))], none⟩, ⟨some 38, .append 2 16 (.t 35) (.t 37), none⟩, ⟨none, .store 1 (.t 8) (.t 38), none⟩] [] false))) e h m Q := (rfl)
theorem plE_put' (m : List (Pl × Unit)) (q : Pl) : mput (.agg [N q.1, N q.2]) (.bool true) (plE m) = plE (mset m q ()) := plE_put m q
theorem plE_find' (m : List (Pl × Unit)) (q : Pl) : aFind (codeD (.agg [N q.1, N q.2])) (plE m) 0 = (lookIx m q 0).map fun r => (r.1, .bool true) := plE_find m q
theorem shape_pl (a b : Int) : shapeK true [some .i64, some .i64] (.agg [I a, I b]) = true := by simp [shapeK, shapeL, shape1]

/-- The list of the region's places so far, in the heap. -/
def RL (B : Nat) (H : List ABlk) (r8 : Nat) (L : List Pl) : Prop :=
  (L = [] ∧ H[r8]? = some (.row false [nilSl])) ∨ (L ≠ [] ∧ ∃ br, B ≤ br ∧ H[r8]? = some (.row false [.sl (some ⟨br, L.length * 2, 0⟩) L.length (.u 2)]) ∧ H[br]? = some (.row false (L.flatMap plC)))

/-- What is known of the heap behind a yield. -/
structure Y2 (B l bm r8 : Nat) (e : List AV) (H : List ABlk) (L : List Pl) (m : List (Pl × Unit)) (r : Ret) : Prop where
  yv : r.v = .bool true
  yl : r.h[l]? = some (.loop ⟨.ready, none, e, [32], yAssign, yBody⟩)
  ym : r.h[bm]? = some (.map true [some .i64, some .i64] (plE m))
  yr : RL B r.h r8 L
  old : ∀ b, b < B → b ≠ l → b ≠ bm → b ≠ r8 → r.h[b]? = H[b]?
  new : ∀ b, B ≤ b → b < H.length → (∀ n c, H[r8]? ≠ some (.row false [.sl (some ⟨b, n, 0⟩) c (.u 2)])) → r.h[b]? = H[b]?
  len : H.length ≤ r.h.length
  defr : ∀ b, B ≤ b → r.h[b]? = some .defr → H[b]? = some .defr
  wr : ∀ b ∈ r.wr, b = l ∨ b = bm ∨ b = r8 ∨ B ≤ b
  lk : ∀ b x, r.lk = some (b, x) → b = r8
  ylo : ∀ br n c, r.h[r8]? = some (.row false [.sl (some ⟨br, n, 0⟩) c (.u 2)]) → br < r.h.length ∧ ((∃ n' c', H[r8]? = some (.row false [.sl (some ⟨br, n', 0⟩) c' (.u 2)])) ∨ ∃ s, r.lk = some (r8, s) ∧ H.length ≤ s ∧ H.length ≤ br)

theorem y251 {B l r3 r8 bm : Nat} {e : List AV} {H : List ABlk} {L : List Pl} {m : List (Pl × Unit)} (q : Pl)
    (hl : H[l]? = some (.loop ⟨.ready, none, e, [32], yAssign, yBody⟩)) (h3 : H[r3]? = some (.row false [.map (some bm)])) (hm : H[bm]? = some (.map true [some .i64, some .i64] (plE m)))
    (e3 : eget e 3 = .ptr (some ⟨r3, 1, 0⟩)) (e8 : eget e 8 = .ptr (some ⟨r8, 1, 0⟩)) (hL : RL B H r8 L) (hB : B ≤ H.length) (h8 : r8 < B) (h9 : bm < B) (h10 : l < B) (hlen : L.length ≤ 100000) :
    ∃ r, Ends PR (.y l) [.agg (plC q)] H r ∧ Y2 B l bm r8 e H (L ++ [q]) (mset m q ()) r := by
  have a1 := hlt hl
  have a2 := hlt h3
  have a3 := hlt hm
  have a4 : r8 < H.length := by omega
  have n1 : l ≠ r3 := by rintro rfl; rw [hl] at h3; cases h3
  have n2 : l ≠ bm := by rintro rfl; rw [hl] at hm; cases hm
  have n3 : bm ≠ r3 := by rintro rfl; rw [hm] at h3; cases h3
  have n5 : l ≠ r8 := by
    rintro rfl
    rcases hL with ⟨_, h⟩ | ⟨_, _, _, h, _⟩ <;> rw [hl] at h <;> cases h
  have n6 : bm ≠ r8 := by
    rintro rfl
    rcases hL with ⟨_, h⟩ | ⟨_, _, _, h, _⟩ <;> rw [hm] at h <;> cases h
  have n7 : r8 ≠ r3 := by
    rintro rfl
    rcases hL with ⟨_, h⟩ | ⟨_, _, _, h, _⟩ <;> rw [h3] at h <;> simp [nilSl] at h
  refine ends_ysome hl rfl rfl ?_
  rcases hL with ⟨rfl, hr⟩ | ⟨hne, br, hbr, hr, hrow⟩
  · simp [yAssign_wp, pushTmps, plC, hl, a1, a2, a3, a4, hget_old, hset_old, hget_at, hget_at0, hset_at, hset_at0, -getElem?_pos]
    have a5 : r8 < H.length + 2 := by omega
    have hmu : ∀ x y, mup H.length (mup H.length ⟨H.length, addAll [] [l], none⟩ [bm] (lkOf bm [.bool true]) x) [r8] (lkOf r8 [.sl (some ⟨H.length + 2, 2, 0⟩) 1 (.u 2)]) y = ⟨y, [l, bm, r8], some (r8, H.length + 2)⟩ := by
      intro x y
      simp [mup, lkOf, addAll, a1, a2, a3, a4, a5, adj, cut, mrg, n2.symm, n5.symm, n6.symm]
    simp [yBody_wp, nilSl, shape_pl, plE_put', e3, e8, h3, hr, hm, a1, a2, a3, a4, n1, n2, n3, n5, n6, n7, n2.symm, n5.symm, hget_old, hset_old, hget_at, hget_at0, hset_at, hset_at0, List.getElem?_set_ne, List.getElem?_set_self, hmu, -getElem?_pos]
    refine ⟨_, _, gcD_take (by simp) ?_, ?_⟩
    · intro b hb hb2
      obtain ⟨j, rfl⟩ : ∃ j, b = H.length + j := ⟨b - H.length, by omega⟩
      rw [hget_at (by simp)]
      match j, hb2 with
      | 0, _ => simp
      | 1, _ => simp
      | 2, _ => simp
      | j + 3, h => omega
    · rw [List.take_of_length_le (by simp)]
      refine ⟨rfl, ?_, ?_, ?_, ?_, ?_, ?_, ?_, ?_, ?_, ?_⟩
      · simp [a1, hget_old, List.getElem?_set_self]
      · simp [a3, hget_old, List.getElem?_set_ne, List.getElem?_set_self, n2, n6.symm, -getElem?_pos]
      · right
        refine ⟨by simp, H.length + 2, by omega, ?_, ?_⟩
        · simp [a4, hget_old, List.getElem?_set_ne, List.getElem?_set_self, n5, -getElem?_pos]
        · simp [hget_at, plC]
      · intro b hb h1 h2 h3
        have : b < H.length := by omega
        simp [this, hget_old, List.getElem?_set_ne, Ne.symm h1, Ne.symm h2, Ne.symm h3, -getElem?_pos]
      · intro b hb hb2 _
        have h1 : l ≠ b := by omega
        have h2 : bm ≠ b := by omega
        have h3 : r8 ≠ b := by omega
        simp [hb2, hget_old, List.getElem?_set_ne, h1, h2, h3, -getElem?_pos]
      · simp
      · intro b hb hd
        by_cases hb2 : b < H.length
        · have h1 : l ≠ b := by omega
          have h2 : bm ≠ b := by omega
          have h3 : r8 ≠ b := by omega
          simpa [hb2, hget_old, List.getElem?_set_ne, h1, h2, h3, -getElem?_pos] using hd
        · obtain ⟨j, rfl⟩ : ∃ j, b = H.length + j := ⟨b - H.length, by omega⟩
          dsimp only at hd
          rw [hget_at (by simp)] at hd
          match j with
          | 0 => simp at hd
          | 1 => simp at hd
          | 2 => simp at hd
          | j + 3 => simp at hd
      · intro b hb; simp at hb; omega
      · intro b x hx; simp at hx; exact hx.1.symm
      · intro br n c hx
        simp [a4, hget_old, List.getElem?_set_ne, List.getElem?_set_self, n5, -getElem?_pos] at hx
        refine ⟨?_, .inr ⟨_, rfl, by omega, by omega⟩⟩
        simp; omega
  · have a5 : br < H.length := hlt hrow
    have n8 : l ≠ br := by omega
    have n9 : bm ≠ br := by omega
    have n10 : r8 ≠ br := by omega
    have n11 : r3 ≠ br := by rintro rfl; rw [h3] at hrow; cases L with
      | nil => exact hne rfl
      | cons a L => simp [plC] at hrow
    have n12 : ¬ (L.length = 0) := by simpa using hne
    have hLl : (L.flatMap plC).length = L.length * 2 := flatMap_len _ 2 (fun _ => rfl) _
    have hby : (L.length + 1) * 16 ≤ 140737488355328 := by omega
    have hmu : ∀ x y z k, ∃ W, mup H.length (mup H.length (mup H.length ⟨H.length, addAll [] [l], none⟩ [bm] (lkOf bm [.bool true]) x) [br] (lkOf br [N q.1, N q.2]) y) [r8] (lkOf r8 [.sl (some ⟨br, k, 0⟩) (L.length + 1) (.u 2)]) z = ⟨H.length, W, some (r8, br)⟩ ∧ ∀ b ∈ W, b = l ∨ b = bm ∨ b = r8 ∨ B ≤ b := by
      intro x y z k
      have h1 : r8 < br := by omega
      have h2 : ¬ (H.length ≤ br) := by omega
      refine ⟨[l, bm, br, r8], ?_, by simp; omega⟩
      simp [mup, lkOf, addAll, a1, a2, a3, a4, a5, adj, cut, mrg, n2.symm, n5.symm, n6.symm, n8.symm, n9.symm, n10, h1, h2]
    simp [yAssign_wp, pushTmps, plC, hl, a1, a2, a3, a4, hget_old, hset_old, hget_at, hget_at0, hset_at, hset_at0, -getElem?_pos]
    simp [yBody_wp, nilSl, shape_pl, plE_put', e3, e8, h3, hr, hm, hrow, hLl, hby, a1, a2, a3, a4, a5, n1, n2, n3, n5, n6, n7, n8, n9, n10, n11, n2.symm, n5.symm, n8.symm, n9.symm, n10.symm, hget_old, hset_old, hget_at, hget_at0, hset_at, hset_at0, List.getElem?_set_ne, List.getElem?_set_self, -getElem?_pos]
    obtain ⟨W, hW, hWp⟩ := hmu (H.length + 1) (H.length + 2) (H.length + 2) (L.length * 2 + 2)
    rw [hW]
    refine ⟨_, _, gcD_take (by simp) (by intro b hb hb2; simp at hb2; omega), ?_⟩
    dsimp only
    rw [List.take_left' (by simp)]
    refine ⟨rfl, ?_, ?_, ?_, ?_, ?_, ?_, ?_, ?_, ?_, ?_⟩
    · simp [a1, List.getElem?_set_self]
    · simp [a3, List.getElem?_set_ne, List.getElem?_set_self, n2, n6.symm, n9.symm, -getElem?_pos]
    · right
      refine ⟨by simp, br, hbr, ?_, ?_⟩
      · simp [a4, List.getElem?_set_ne, List.getElem?_set_self, n5, -getElem?_pos]
        omega
      · simp [a5, List.getElem?_set_ne, List.getElem?_set_self, n8, n10, plC, -getElem?_pos]
    · intro b hb h1 h2 h3
      have h4 : br ≠ b := by omega
      simp [List.getElem?_set_ne, Ne.symm h1, Ne.symm h2, Ne.symm h3, h4, -getElem?_pos]
    · intro b hb hb2 hbr'
      have h1 : l ≠ b := by omega
      have h2 : bm ≠ b := by omega
      have h3 : r8 ≠ b := by omega
      have h4 : br ≠ b := by rintro rfl; exact hbr' _ _ hr
      simp [List.getElem?_set_ne, h1, h2, h3, h4, -getElem?_pos]
    · simp
    · intro b hb hd
      have h1 : l ≠ b := by omega
      have h2 : bm ≠ b := by omega
      have h3 : r8 ≠ b := by omega
      by_cases h4 : br = b
      · subst h4
        simp [a5, List.getElem?_set_ne, List.getElem?_set_self, n8, n10, -getElem?_pos] at hd
      · simpa [List.getElem?_set_ne, h1, h2, h3, h4, -getElem?_pos] using hd
    · exact hWp
    · intro b x hx; simp at hx; exact hx.1.symm
    · intro br' n c hx
      simp [a4, List.getElem?_set_ne, List.getElem?_set_self, n5, -getElem?_pos] at hx
      obtain ⟨⟨rfl, _⟩, _⟩ := hx
      exact ⟨by simpa using a5, .inl ⟨_, _, hr⟩⟩

end Go.Proofs.Ytocoadpepofbbaa.AM

/-
  THE PACKAGE diag, part 5: the loop over a region.
-/
set_option linter.unusedVariables false
set_option linter.unusedSimpArgs false
set_option maxRecDepth 10000
namespace Go.Proofs.Ytocoadpepofbbaa.AM
open Go

theorem DP.upd {h h' : List ABlk} {v : AV} {xs : List X} {loops : Int} {es : List E} (H : DP h v xs loops es) (U : Upd h h' []) : DP h' v xs loops es := by
  obtain ⟨b, ro, ac, cc, ae, ce, hv, hb, h1, h2⟩ := H
  exact ⟨b, ro, ac, cc, ae, ce, hv, U.get hb (by simp), h1.upd U (by simp), h2.upd U (by simp)⟩

/-- What is known behind the loop over a region. -/
structure A2 (H : List ABlk) (l bm r8 : Nat) (e : List AV) (L : List Pl) (m : List (Pl × Unit)) (r : Ret) : Prop where
  al : r.h[l]? = some (.loop ⟨.ready, none, e, [32], yAssign, yBody⟩)
  am : r.h[bm]? = some (.map true [some .i64, some .i64] (plE m))
  ar : RL H.length r.h r8 L
  upd : Upd H r.h [l, bm, r8]
  wr : ∀ b ∈ r.wr, b = l ∨ b = bm ∨ b = r8
  lk : ∀ b x, r.lk = some (b, x) → b = r8

/-- The state of the loop over a region. -/
structure AI (H : List ABlk) (l bm r8 : Nat) (e0 : List AV) (L : List Pl) (m : List (Pl × Unit)) (x : Pl) (v4 : AV) (Hc : List ABlk) (mt : Mt) : Prop where
  al : Hc[l]? = some (.loop ⟨.ready, none, e0, [32], yAssign, yBody⟩)
  am : Hc[bm]? = some (.map true [some .i64, some .i64] (plE m))
  ar : RL H.length Hc r8 L
  upd : Upd H Hc [l, bm, r8]
  defr : ∀ b, H.length ≤ b → Hc[b]? ≠ some .defr
  lo : H.length ≤ mt.lo ∧ mt.lo ≤ Hc.length
  rlo : ∀ br n c, Hc[r8]? = some (.row false [.sl (some ⟨br, n, 0⟩) c (.u 2)]) → br < mt.lo
  wr : ∀ b ∈ mt.wr, b = l ∨ b = bm ∨ b = r8
  lk : ∀ b x, mt.lk = some (b, x) → b = r8
  xb : ∃ b, v4 = .ptr (some ⟨b, 2, 0⟩) ∧ H.length ≤ b ∧ Hc[b]? = some (.row false (plC x)) ∧ ∀ n c, Hc[r8]? ≠ some (.row false [.sl (some ⟨b, n, 0⟩) c (.u 2)])

theorem mem_addAll' {x : Nat} : ∀ {xs l : List Nat}, x ∈ addAll l xs → x ∈ l ∨ x ∈ xs
  | [], l, h => .inl h
  | y :: ys, l, h => by
    rcases mem_addAll' (xs := ys) h with h | h
    · split at h
      · exact .inl h
      · rcases List.mem_append.mp h with h | h
        · exact .inl h
        · exact .inr (by simp at h; simp [h])
    · exact .inr (List.mem_cons_of_mem _ h)

theorem mup_own {base : Nat} {m : Mt} {b n : Nat} (hb : base ≤ b) : mup base m [b] none n = m := by
  obtain ⟨lo, w, k⟩ := m
  have hf : [b].filter (· < base) = [] := by simp; omega
  simp only [mup, hf]
  cases k <;> rfl

theorem a279 {h0 H : List ABlk} {v : AV} {xs : List X} {loops : Int} {es : List E} (D : DP h0 v xs loops es) {oth : Nat → Nat → Nat × Nat} (ho : OthOk v xs loops es oth) (U0 : Upd h0 H []) (hM : xs.length ≤ 1000)
    {l r3 r8 bm eb db : Nat} {e : List AV} {m : List (Pl × Unit)} {x0 : Pl} (hx0 : x0.1 < xs.length ∧ x0.2 < 4)
    (hl : H[l]? = some (.loop ⟨.ready, none, e, [32], yAssign, yBody⟩)) (h3 : H[r3]? = some (.row false [.map (some bm)])) (hm : H[bm]? = some (.map true [some .i64, some .i64] (plE m)))
    (e3 : eget e 3 = .ptr (some ⟨r3, 1, 0⟩)) (e8 : eget e 8 = .ptr (some ⟨r8, 1, 0⟩)) (h8 : H[r8]? = some (.row false [nilSl])) (heb : H[eb]? = some (.row false (plC x0))) (hdb : H[db]? = some (.row false [v]))
    (d1 : db ≠ r8) (hv : v ≠ nilSl) (b1 : h0.length ≤ l) (b2 : h0.length ≤ bm) (b3 : h0.length ≤ r8) {f : Nat} (hf : f ≤ 50000) (hs : stops (nextPl oth) x0 f x0) :
    ∃ r, Ends PR (.f 279) [.yld l, .ptr (some ⟨eb, 2, 0⟩), .ptr (some ⟨db, 1, 0⟩)] H r ∧
      A2 H l bm r8 e (regGo (nextPl oth) x0 f x0) ((regGo (nextPl oth) x0 f x0).foldl (fun m x => mset m x ()) m) r := by
  have a1 := hlt hl
  have a2 := hlt h3
  have a3 := hlt hm
  have a4 := hlt h8
  have a5 := hlt heb
  have a6 := hlt hdb
  have n1 : eb ≠ l := by rintro rfl; rw [hl] at heb; cases heb
  have n2 : eb ≠ bm := by rintro rfl; rw [hm] at heb; cases heb
  have n3 : eb ≠ r8 := by rintro rfl; rw [h8] at heb; simp [plC] at heb
  have n4 : db ≠ l := by rintro rfl; rw [hl] at hdb; cases hdb
  have n5 : db ≠ bm := by rintro rfl; rw [hm] at hdb; cases hdb
  have n6 : r3 ≠ l := by rintro rfl; rw [hl] at h3; cases h3
  have n7 : r3 ≠ bm := by rintro rfl; rw [hm] at h3; cases h3
  have n8 : r3 ≠ r8 := by rintro rfl; rw [h8] at h3; simp [nilSl] at h3
  refine ends_some' p279 (by simp [c279]) ?_
  simp [c279, heb, a5, hget_old, plC, -getElem?_pos]
  refine wp_loopN (α := Nat × Pl × List Pl × List (Pl × Unit)) (fun a e' Hc mt => eget e' 0 = .yld l ∧ eget e' 1 = .ptr (some ⟨eb, 2, 0⟩) ∧ eget e' 2 = .ptr (some ⟨db, 1, 0⟩) ∧
      AI H l bm r8 e a.2.2.1 a.2.2.2 a.2.1 (eget e' 4) Hc mt ∧ (a.2.1.1 < xs.length ∧ a.2.1.2 < 4) ∧ stops (nextPl oth) x0 a.1 a.2.1 ∧ a.2.2.1 ++ regGo (nextPl oth) x0 a.1 a.2.1 = regGo (nextPl oth) x0 f x0 ∧
      (regGo (nextPl oth) x0 a.1 a.2.1).foldl (fun m x => mset m x ()) a.2.2.2 = (regGo (nextPl oth) x0 f x0).foldl (fun m x => mset m x ()) m ∧ a.2.2.1.length + a.1 ≤ 50000)
    (fun a => a.1) (fun a => (a.1 - 1, nextPl oth a.2.1, a.2.2.1 ++ [a.2.1], mset a.2.2.2 a.2.1 ())) ?_ (a := (f, x0, [], m)) ?_
  · rintro ⟨f, x, L, m⟩ e' Hc mt ⟨f0, f1, f2, I0, hx, hst, hR, hmR, hlen⟩
    dsimp only at hx hst hR hmR hlen I0
    obtain ⟨al, am, ar, upd, defr, lo, rlo, wr, lk, xb, e4, hxb, hxr, hxn⟩ := I0
    have hB : H.length ≤ Hc.length := upd.1
    have k3 := upd.get h3 (by simp [n6, n7, n8])
    have hcx : ∃ r, Ends PR (.y l) [.agg [N x.1, N x.2]] Hc r ∧ Y2 H.length l bm r8 e Hc (L ++ [x]) (mset m x ()) r := y251 x al k3 am e3 e8 ar hB a4 a3 a1 (by omega)
    simp [c279_l0, f0, f1, f2, e4, hxr, plC, -getElem?_pos]
    obtain ⟨r, hr, Y⟩ := hcx
    refine ⟨r, hr, ?_⟩
    obtain ⟨rv, rh, rw', rlk⟩ := r
    obtain ⟨yv, yl, ym, yr, yold, ynew, ylen, ydefr, ywr, ylk, ylo⟩ := Y
    dsimp only at yv yl ym yr yold ynew ylen ydefr ywr ylk ylo
    subst yv
    have hxr2 : rh[xb]? = some (.row false [N x.1, N x.2]) := by rw [ynew xb hxb (hlt hxr) hxn, hxr]; rfl
    have hdb2 : rh[db]? = some (.row false [v]) := by rw [yold db a6 n4 n5 d1]; exact upd.get hdb (by simp [n4, n5, d1])
    have heb2 : rh[eb]? = some (.row false [N x0.1, N x0.2]) := by rw [yold eb a5 n1 n2 n3]; exact upd.get heb (by simp [n1, n2, n3])
    have hUh : Upd h0 rh [] := by
      refine ⟨Nat.le_trans U0.1 (Nat.le_trans hB ylen), fun b hb _ => ?_⟩
      have hbH : b < H.length := Nat.lt_of_lt_of_le hb U0.1
      rw [yold b hbH (by omega) (by omega) (by omega), upd.2 b hbH (by simp; omega), U0.2 b hb (by simp)]
    obtain ⟨o1, o2, o3⟩ := ho x.1 x.2 hx.1 hx.2
    have hcall := o3 rh (D.upd hUh)
    have hxl := hlt hxr2
    have hbne : eb ≠ xb := by omega
    have hw : IntKind.i64.wrap (((oth x.1 x.2).2 : Int) + 3) = ((oth x.1 x.2).2 + 3 : Nat) := by rw [wrap64 (by omega) (by omega)]; rfl
    have ht : (((oth x.1 x.2).2 : Int) + 3).tmod 4 = ((((oth x.1 x.2).2 + 3) % 4 : Nat) : Int) := by
      rw [show (((oth x.1 x.2).2 : Int) + 3) = (((oth x.1 x.2).2 + 3 : Nat) : Int) by omega]; rfl
    have hnx : nextPl oth x = ((oth x.1 x.2).1, ((oth x.1 x.2).2 + 3) % 4) := rfl
    -- the state behind the call
    have M1 : ∀ b ∈ (mup H.length mt rw' rlk rh.length).wr, b = l ∨ b = bm ∨ b = r8 := by
      intro b hb
      rcases mem_addAll' hb with hb | hb
      · exact wr b hb
      · rw [List.mem_filter] at hb
        have := hb.2
        rcases ywr b hb.1 with h | h | h | h
        · exact .inl h
        · exact .inr (.inl h)
        · exact .inr (.inr h)
        · simp at this; omega
    have M2 : ∀ b x, (mup H.length mt rw' rlk rh.length).lk = some (b, x) → b = r8 := by
      intro b z hb
      simp only [mup] at hb
      rcases hk : rlk with _ | ⟨c, s⟩
      · rw [hk] at hb
        rcases hk' : mt.lk with _ | ⟨c', s'⟩
        · rw [hk'] at hb; simp [mrg, cut] at hb
        · rw [hk'] at hb; simp [mrg, cut] at hb; rw [← hb.1]; exact lk _ _ hk'
      · have hc := ylk _ _ hk
        subst hc
        rw [hk] at hb
        rcases hk' : mt.lk with _ | ⟨c', s'⟩
        · rw [hk'] at hb; simp [mrg, cut, a4] at hb; exact hb.1.symm
        · have := lk _ _ hk'
          subst this
          rw [hk'] at hb; simp [mrg, cut, a4] at hb; exact hb.1.symm
    have M3 : H.length ≤ (mup H.length mt rw' rlk rh.length).lo ∧ (mup H.length mt rw' rlk rh.length).lo ≤ rh.length ∧ mt.lo ≤ (mup H.length mt rw' rlk rh.length).lo := by
      simp only [mup, adj]
      have := lo.1; have := lo.2
      split
      · split <;> omega
      · omega
    have M4 : ∀ br n c, rh[r8]? = some (.row false [.sl (some ⟨br, n, 0⟩) c (.u 2)]) → br < (mup H.length mt rw' rlk rh.length).lo := by
      intro br n c hb
      obtain ⟨h1, ⟨n', c', h2⟩ | ⟨s, h2, h3, _⟩⟩ := ylo br n c hb
      · have := rlo _ _ _ h2; omega
      · have h4 : r8 < mt.lo := by have := lo.1; omega
        have h5 : mt.lo ≤ s := by have := lo.2; omega
        simp only [mup, adj, h2, h4, h5, and_self, if_true]
        exact h1
    have M5 : Upd H rh [l, bm, r8] := ⟨by omega, fun b hb hw => by
      rw [yold b hb (by rintro rfl; simp at hw) (by rintro rfl; simp at hw) (by rintro rfl; simp at hw)]; exact upd.2 b hb hw⟩
    have M6 : ∀ b, H.length ≤ b → rh[b]? ≠ some .defr := fun b hb hd => defr b hb (ydefr b hb hd)
    obtain ⟨MT, hMT⟩ : ∃ MT, MT = mup H.length mt rw' rlk rh.length := ⟨_, rfl⟩
    rw [← hMT] at M1 M2 M3 M4
    have n9 : xb ≠ r8 := by omega
    have n10 : xb ≠ l := by omega
    have n11 : xb ≠ bm := by omega
    have ylb := hlt yl
    obtain ⟨f, rfl⟩ : ∃ g, f = g + 1 := ⟨f - 1, by cases f with
      | zero => exact hst.elim
      | succ f => omega⟩
    simp only [regGo] at hR hmR
    simp only [stops] at hst
    have hxx : ((oth x.1 x.2).1 = x0.1 ∧ ((oth x.1 x.2).2 + 3) % 4 = x0.2) ↔ nextPl oth x = x0 := by
      rw [hnx]; exact ⟨fun h => by rw [h.1, h.2], fun h => by rw [← h]; exact ⟨rfl, rfl⟩⟩
    have hrl : ∀ k, RL H.length (rh.set xb k) r8 (L ++ [x]) ∨ ∃ n c, rh[r8]? = some (.row false [.sl (some ⟨xb, n, 0⟩) c (.u 2)]) := by
      intro k
      rcases yr with ⟨h, _⟩ | ⟨h1, br, h3, h4, h5⟩
      · simp at h
      · by_cases h6 : xb = br
        · subst h6; exact .inr ⟨_, _, h4⟩
        · exact .inl (.inr ⟨h1, br, h3, by rw [List.getElem?_set_ne n9]; exact h4, by rw [List.getElem?_set_ne h6]; exact h5⟩)
    have hxr8 : ∀ n c, rh[r8]? ≠ some (.row false [.sl (some ⟨xb, n, 0⟩) c (.u 2)]) := by
      intro n c hh
      obtain ⟨_, ⟨n', c', h8⟩ | ⟨s, h8, h9, h10⟩⟩ := ylo _ _ _ hh
      · exact hxn _ _ h8
      · have := hlt hxr; omega
    have hrl' : ∀ k, RL H.length (rh.set xb k) r8 (L ++ [x]) := fun k => (hrl k).resolve_right fun ⟨n, c, h⟩ => hxr8 n c h
    have hUx : ∀ k, Upd H (rh.set xb k) [l, bm, r8] := fun k => ⟨by simp; omega, fun b hb hw => by rw [List.getElem?_set_ne (by omega)]; exact M5.2 b hb hw⟩
    simp [kFst_ap, f0, f1, f2, e4, hdb2, hxr2, heb2, ends_eq hcall, hxl, hbne, hbne.symm, hw, ht, lkOf, mup_own hxb, ← hMT, List.getElem?_set_ne, List.getElem?_set_self, hget_at, hget_at0, hset_at, hset_at0, -getElem?_pos]
    have hlr : ∀ k : ABlk, (rh.set xb k)[l]? = some (.loop ⟨.ready, none, e, [32], yAssign, yBody⟩) := fun k => by rw [List.getElem?_set_ne n10]; exact yl
    have hmr : ∀ k : ABlk, (rh.set xb k)[bm]? = some (.map true [some .i64, some .i64] (plE (mset m x ()))) := fun k => by rw [List.getElem?_set_ne n11]; exact ym
    have h8r : ∀ k : ABlk, (rh.set xb k)[r8]? = rh[r8]? := fun k => by rw [List.getElem?_set_ne n9]
    refine ⟨fun g1 g2 => ?_, fun g => ?_⟩
    · have hnx0 : nextPl oth x = x0 := hxx.mp ⟨by omega, by omega⟩
      rw [if_pos hnx0] at hR hmR
      generalize hK : ABlk.row false [N (oth x.1 x.2).1, AV.int .i64 ((((oth x.1 x.2).2 : Int) + 3) % 4)] = K
      refine ⟨_, _, gcD_take (by simp [tupOf]) ?_, ?_⟩
      · intro b hb hb2 hd
        by_cases hbx : b = xb
        · subst hbx; rw [List.getElem?_set_self hxl, ← hK] at hd; simp at hd
        · rw [List.getElem?_set_ne (fun h => hbx h.symm)] at hd; exact M6 b hb hd
      · refine ⟨?_, ?_, ?_, (hUx K).take M3.1 (by simpa using M3.2.1), M1, M2⟩
        · dsimp only; rw [List.getElem?_take_of_lt (by omega)]; exact hlr K
        · dsimp only; rw [List.getElem?_take_of_lt (by omega), hmr K]; rw [← hmR]; rfl
        · dsimp only
          rw [← hR]
          rcases hrl' K with ⟨h, _⟩ | ⟨h1, br, h3, h4, h5⟩
          · simp at h
          · rw [h8r K] at h4
            have := M4 _ _ _ h4
            exact .inr ⟨h1, br, h3, by rw [List.getElem?_take_of_lt (by omega), h8r K]; exact h4, by rw [List.getElem?_take_of_lt this]; exact h5⟩
    · have hnx0 : ¬ nextPl oth x = x0 := fun h => by
        have := hxx.mpr h
        exact g (by omega) (by omega)
      rw [if_neg hnx0] at hR hmR
      have hst' := hst.resolve_left hnx0
      generalize hK : ABlk.row false [N (oth x.1 x.2).1, AV.int .i64 ((((oth x.1 x.2).2 : Int) + 3) % 4)] = K
      have hKx : K = .row false (plC (nextPl oth x)) := by rw [← hK, hnx]; simp [plC]
      have hxl' : rh.length = (rh.set xb K).length := by simp
      refine ⟨?_, by rw [hnx]; exact ⟨o1, by omega⟩, hst', by simpa using hR, by rw [← hmR]; rfl, by omega⟩
      rw [mup_own (by omega)]
      refine ⟨hget_some (hlr K), hget_some (hmr K), ?_, (hUx K).trans (Upd.app _ _ _), ?_, ⟨M3.1, by simp; omega⟩, ?_, M1, M2, rh.length, rfl, by omega, ?_, ?_⟩
      · rcases hrl' K with ⟨h, _⟩ | ⟨h1, br, h3, h4, h5⟩
        · simp at h
        · exact .inr ⟨h1, br, h3, hget_some h4, hget_some h5⟩
      · intro b hb hd
        by_cases hbl : b < rh.length
        · rw [hget_old (by simpa using hbl)] at hd
          by_cases hbx : b = xb
          · subst hbx; rw [List.getElem?_set_self hxl, ← hK] at hd; simp at hd
          · rw [List.getElem?_set_ne (fun h => hbx h.symm)] at hd; exact M6 b hb hd
        · obtain ⟨j, rfl⟩ : ∃ j, b = rh.length + j := ⟨b - rh.length, by omega⟩
          rw [hget_at (by simp), ← hK] at hd
          cases j <;> simp at hd
      · intro br n c hb
        rw [hget_old (by simp; omega), h8r K] at hb
        exact M4 _ _ _ hb
      · rw [hget_at0 (by simp), hKx]; rfl
      · intro n c hb
        rw [hget_old (by simp; omega), h8r K] at hb
        have := M4 _ _ _ hb
        omega
  · refine ⟨rfl, rfl, rfl, ?_, hx0, hs, rfl, rfl, by simpa using hf⟩
    refine ⟨hget_some hl, hget_some hm, .inl ⟨rfl, hget_some h8⟩, Upd.app _ _ _, ?_, ⟨by simp, by simp⟩, ?_, by simp, by simp, H.length, rfl, by simp, ?_, ?_⟩
    · intro b hb hd
      obtain ⟨j, rfl⟩ : ∃ j, b = H.length + j := ⟨b - H.length, by omega⟩
      rw [hget_new] at hd
      cases j <;> simp at hd
    · intro br n c hb
      rw [hget_some h8] at hb; simp [nilSl] at hb
    · simp [plC]
    · intro n c hb
      rw [hget_some h8] at hb; simp [nilSl] at hb

end Go.Proofs.Ytocoadpepofbbaa.AM

/-
  COMPACTION OF A LIST OF LISTS; loops over functions.
-/
set_option linter.unusedVariables false
set_option linter.unusedSimpArgs false
namespace Go.Proofs.Ytocoadpepofbbaa.AM
open Go
variable {pr : FuncId → Option AFunc}

/-- A list in memory: its cells, its length, its capacity. -/
abbrev Rw := List AV × Nat × Cap
def Rw.at (b : Nat) (r : Rw) : AV := .sl (some ⟨b, r.1.length, 0⟩) r.2.1 r.2.2
def rwAt : List Nat → List Rw → List AV
  | b :: bs, r :: rs => r.at b :: rwAt bs rs
  | _, _ => []
def rwIn (h : List ABlk) : List Nat → List Rw → Prop
  | b :: bs, r :: rs => h[b]? = some (.row false r.1) ∧ rwIn h bs rs
  | [], [] => True
  | _, _ => False
theorem rwIn_len {h : List ABlk} : ∀ {bs : List Nat} {rs : List Rw}, rwIn h bs rs → bs.length = rs.length
  | [], [], _ => rfl
  | _ :: _, [], h => h.elim
  | [], _ :: _, h => h.elim
  | _ :: bs, _ :: rs, h => by simp [rwIn_len h.2]
theorem rwIn_upd {h h' : List ABlk} {W : List Nat} (U : Upd h h' W) : ∀ {bs : List Nat} {rs : List Rw}, (∀ b ∈ bs, b ∉ W) → rwIn h bs rs → rwIn h' bs rs
  | [], [], _, _ => trivial
  | _ :: _, [], _, h => h.elim
  | [], _ :: _, _, h => h.elim
  | b :: bs, r :: rs, hw, h => ⟨U.get h.1 (hw b (by simp)), rwIn_upd U (fun b hb => hw b (by simp [hb])) h.2⟩
theorem rwIn_app {h : List ABlk} {b : Nat} {r : Rw} (hb : h[b]? = some (.row false r.1)) : ∀ {bs : List Nat} {rs : List Rw}, rwIn h bs rs → rwIn h (bs ++ [b]) (rs ++ [r])
  | [], [], _ => ⟨hb, trivial⟩
  | _ :: _, [], h => h.elim
  | [], _ :: _, h => h.elim
  | _ :: bs, _ :: rs, h => ⟨h.1, rwIn_app hb h.2⟩
theorem rwAt_app {b : Nat} {r : Rw} : ∀ {bs : List Nat} {rs : List Rw}, bs.length = rs.length → rwAt (bs ++ [b]) (rs ++ [r]) = rwAt bs rs ++ [r.at b]
  | [], [], _ => rfl
  | _ :: _, [], h => by simp at h
  | [], _ :: _, h => by simp at h
  | _ :: bs, _ :: rs, h => by
    simp only [List.cons_append, rwAt]
    rw [rwAt_app (by simpa using h)]
theorem rwAt_len : ∀ {bs : List Nat} {rs : List Rw}, bs.length = rs.length → (rwAt bs rs).length = rs.length
  | [], [], _ => rfl
  | _ :: _, [], h => by simp at h
  | [], _ :: _, h => by simp at h
  | _ :: bs, _ :: rs, h => by simp [rwAt, rwAt_len (bs := bs) (rs := rs) (by simpa using h)]
theorem rwAt_refs : ∀ {bs : List Nat} {rs : List Rw}, bs.length = rs.length → refsL (rwAt bs rs) = bs
  | [], [], _ => rfl
  | _ :: _, [], h => by simp at h
  | [], _ :: _, h => by simp at h
  | _ :: bs, _ :: rs, h => by simp [rwAt, Rw.at, rwAt_refs (bs := bs) (rs := rs) (by simpa using h)]
theorem rwAt_ren {ρ : Nat → Option Nat} : ∀ {bs cs : List Nat} {rs : List Rw}, bs.length = rs.length → bs.mapM ρ = some cs → renL ρ (rwAt bs rs) = some (rwAt cs rs)
  | [], cs, [], _, h => by simp at h; subst h; rfl
  | _ :: _, _, [], h, _ => by simp at h
  | [], _, _ :: _, h, _ => by simp at h
  | b :: bs, cs, r :: rs, h, hc => by
    simp only [List.mapM_cons] at hc
    cases hb : ρ b with
    | none => rw [hb] at hc; cases hc
    | some c =>
      rw [hb] at hc
      cases hd : bs.mapM ρ with
      | none => rw [hd] at hc; cases hc
      | some ds =>
        rw [hd] at hc
        cases hc
        simp only [rwAt, renL_cons, rwAt_ren (rs := rs) (by simpa using h) hd]
        simp [Rw.at, hb]
theorem dd_nodup : ∀ (l acc : List Nat), (acc ++ l).Nodup → dd acc l = acc ++ l
  | [], acc, _ => by simp [dd]
  | x :: l, acc, h => by
    have hx : x ∉ acc := by
      intro hx
      exact (List.nodup_append.mp h).2.2 x hx x (by simp) rfl
    rw [dd, if_neg hx, dd_nodup l (acc ++ [x]) (by simpa using h)]
    simp
theorem idx_range : ∀ (l : List Nat) (lo : Nat), l.Nodup → l.mapM (idx lo l) = some (List.range' lo l.length) := by
  intro l
  induction l with
  | nil => intro lo _; rfl
  | cons x l ih =>
    intro lo hn
    rw [List.nodup_cons] at hn
    have h1 : l.mapM (idx lo (x :: l)) = l.mapM (idx (lo + 1) l) := by
      have : ∀ (k : List Nat), (∀ y ∈ k, y ≠ x) → k.mapM (idx lo (x :: l)) = k.mapM (idx (lo + 1) l) := by
        intro k
        induction k with
        | nil => intro _; rfl
        | cons y k ih2 =>
          intro hk
          have hy : idx lo (x :: l) y = idx (lo + 1) l y := by
            simp only [idx]
            rw [if_neg (fun h => hk y (by simp) h.symm)]
          simp only [List.mapM_cons, hy, ih2 (fun z hz => hk z (by simp [hz]))]
      exact this l (fun y hy h => hn.1 (h ▸ hy))
    simp only [List.mapM_cons, h1, ih (lo + 1) hn.2]
    simp [idx, List.range'_succ]
theorem mapM_congr' {f g : Nat → Option Nat} : ∀ {l : List Nat}, (∀ b ∈ l, f b = g b) → l.mapM f = l.mapM g
  | [], _ => rfl
  | b :: l, h => by simp only [List.mapM_cons, h b (by simp), mapM_congr' (l := l) (fun c hc => h c (by simp [hc]))]

theorem renBlks_rows {ρ : Nat → Option Nat} {h : List ABlk} : ∀ {bs : List Nat} {rs : List Rw}, rwIn h bs rs → (∀ r ∈ rs, refsL r.1 = []) → renBlks ρ h bs = some (rs.map fun r => .row false r.1)
  | [], [], _, _ => rfl
  | _ :: _, [], h, _ => h.elim
  | [], _ :: _, h, _ => h.elim
  | b :: bs, r :: rs, hr, hf => by
    simp only [renBlks, hr.1, renBlk, renL_same r.1 (by simp [hf r (by simp)]), renBlks_rows hr.2 (fun r hr => hf r (by simp [hr]))]
    rfl

/-- A list of lists is reached. -/
theorem gc_LL {h H : List ABlk} (U : Upd h H []) {bl n : Nat} {cap : Cap} {bs : List Nat} {rs : List Rw} {ro : Bool} {g : Nat} (hb : H[bl]? = some (.row ro (rwAt bs rs))) (hbs : rwIn H bs rs)
    (hf : ∀ r ∈ rs, refsL r.1 = []) (hge : h.length ≤ bl ∧ ∀ b ∈ bs, h.length ≤ b) (hnd : (bl :: bs).Nodup) :
    gc h.length (.sl (some ⟨bl, g, 0⟩) n cap) H = some (.sl (some ⟨h.length, g, 0⟩) n cap, h ++ .row ro (rwAt (List.range' (h.length + 1) rs.length) rs) :: rs.map fun r => .row false r.1) := by
  have hl := rwIn_len hbs
  have e0 : (refs (.sl (some ⟨bl, g, 0⟩) n cap)).filter (h.length ≤ ·) = [bl] := by simp [hge.1]
  have e1 : ([bl].flatMap (blkRefs H)).filter (h.length ≤ ·) = bs := by
    simp only [List.flatMap_cons, List.flatMap_nil, List.append_nil, blkRefs, hb, rwAt_refs hl]
    rw [List.filter_eq_self]; intro b hb; simpa using hge.2 b hb
  have e2 : ∀ {bs : List Nat} {rs : List Rw}, rwIn H bs rs → (∀ r ∈ rs, refsL r.1 = []) → bs.flatMap (blkRefs H) = [] := by
    intro bs
    induction bs with
    | nil => intros; rfl
    | cons b bs ih =>
      intro rs hr hf
      cases rs with
      | nil => exact hr.elim
      | cons r rs =>
        simp only [List.flatMap_cons, blkRefs, hr.1, hf r (by simp), List.nil_append]
        exact ih hr.2 (fun r hr => hf r (by simp [hr]))
  have e3 : dd [] ([bl] ++ bs ++ []) = bl :: bs := by
    rw [dd_nodup _ _ (by simpa using hnd)]; simp
  have hnd' := List.nodup_cons.mp hnd
  have e4 : bs.mapM (fun b => if b < h.length then some b else idx h.length (bl :: bs) b) = some (List.range' (h.length + 1) bs.length) := by
    rw [← idx_range bs (h.length + 1) hnd'.2]
    refine mapM_congr' fun b hb => ?_
    have h1 := hge.2 b hb
    rw [if_neg (by omega)]
    simp only [idx]
    rw [if_neg (by rintro rfl; exact hnd'.1 hb)]
  have e5 : H.take h.length = h := by
    apply List.ext_getElem?
    intro i
    rw [List.getElem?_take]
    split
    · rename_i hi; exact U.2 i hi (by simp)
    · rw [List.getElem?_eq_none (by omega)]
  have e6 : ¬ bl < h.length := by have := hge.1; omega
  simp only [gc, e0, e1, e2 hbs hf, List.filter_nil, e3, e5]
  have e7 : ren (fun b => if b < h.length then some b else idx h.length (bl :: bs) b) (.sl (some ⟨bl, g, 0⟩) n cap) = some (.sl (some ⟨h.length, g, 0⟩) n cap) := by
    simp [e6, idx]
  simp only [e7, renBlks, hb, renBlk, rwAt_ren hl e4, renBlks_rows hbs hf, hl]

/-- A row is reached, and another one through it. -/
theorem gc_chain {h l : List ABlk} {v v' : AV} {i j : Nat} {ro ro' : Bool} {cs cs' ds : List AV} (hij : i ≠ j) (hr : (refs v).filter (h.length ≤ ·) = [h.length + i]) (hl : l[i]? = some (.row ro cs))
    (hr' : (refsL cs).filter (h.length ≤ ·) = [h.length + j]) (hl' : l[j]? = some (.row ro' ds)) (hd : refsL ds = [])
    (hv : ren (fun b => if b < h.length then some b else if b = h.length + i then some h.length else if b = h.length + j then some (h.length + 1) else none) v = some v')
    (hc : renL (fun b => if b < h.length then some b else if b = h.length + i then some h.length else if b = h.length + j then some (h.length + 1) else none) cs = some cs') :
    gc h.length v (h ++ l) = some (v', h ++ [.row ro cs', .row ro' ds]) := by
  have hb : blkRefs (h ++ l) (h.length + i) = refsL cs := by simp only [blkRefs, hget_new, hl]
  have hb' : blkRefs (h ++ l) (h.length + j) = [] := by simp only [blkRefs, hget_new, hl', hd]
  have e1 : (fun b => if b < h.length then some b else idx h.length [h.length + i, h.length + j] b) = (fun b => if b < h.length then some b else if b = h.length + i then some h.length else if b = h.length + j then some (h.length + 1) else none) := by
    funext b
    simp only [idx]
    by_cases h1 : h.length + i = b
    · simp [h1]
    · have h1' : ¬ b = h.length + i := fun h => h1 h.symm
      by_cases h2 : h.length + j = b
      · simp [h1, h1', h2]
      · have h2' : ¬ b = h.length + j := fun h => h2 h.symm
        simp [h1, h1', h2, h2']
  have e2 : dd [] ([h.length + i] ++ [h.length + j] ++ []) = [h.length + i, h.length + j] := by
    have : ¬ (j = i) := fun h => hij h.symm
    simp [dd, this]
  simp only [gc, hr, List.flatMap_cons, List.flatMap_nil, List.append_nil, hb, hr', hb', List.filter_nil]
  rw [show ([h.length + i] ++ [h.length + j]) = ([h.length + i] ++ [h.length + j] ++ []) by simp, e2]
  simp only [e1, hv, renBlks, hget_new, hl, hl', renBlk, hc]
  rw [renL_same ds (by simp [hd])]
  simp

/-! ### loops over functions -/
def kRg (base : Nat) (e : List AV) (h : List ABlk) (m : Mt) (Q : ExK) (r : Ret) : Prop :=
  match r.h[h.length + 1]? with
  | some (.loop lp) => lp.st ≠ .busy ∧ Q (lp.pend.getD .normal) e (r.h.set (h.length + 1) (.loop { lp with st := .exhausted })) (mup base m r.wr r.lk r.h.length)
  | _ => False
def kRange (pr : FuncId → Option AFunc) (base : Nat) (ps : List Nat) (a b : ACode) (e : List AV) (h : List ABlk) (m : Mt) (Q : ExK) : AV → Prop
  | .fn g cap => ∃ r, Ends pr (.f g) (.yld (h.length + 1) :: cap) ((h ++ [.defr]) ++ [.loop ⟨.ready, none, e, ps, a, b⟩]) r ∧ kRg base e h m Q r
  | _ => False
@[simp] theorem kRange_fn (base : Nat) (ps : List Nat) (a b : ACode) (e : List AV) (h : List ABlk) (m : Mt) (Q : ExK) (g : FuncId) (cap : List AV) : kRange pr base ps a b e h m Q (.fn g cap) =
  ∃ r, Ends pr (.f g) (.yld (h.length + 1) :: cap) ((h ++ [.defr]) ++ [.loop ⟨.ready, none, e, ps, a, b⟩]) r ∧ kRg base e h m Q r := (rfl)
@[simp] theorem wp_rangeF (base : Nat) (f : AOpd) (ps : List Nat) (a b : ACode) (e : List AV) (h : List ABlk) (m : Mt) (Q : ExK) : wp pr base false (.rangeF f ps a b) e h m Q = kRange pr base ps a b e h m Q (av e f) := by
  simp only [wp, true_and]
  cases av e f <;> rfl
theorem kRg_of {base : Nat} {e : List AV} {h : List ABlk} {m : Mt} {Q : ExK} {r : Ret} {lp : ALoop} (hl : r.h[h.length + 1]? = some (.loop lp)) (hs : lp.st = .ready) (hp : lp.pend = none)
    (hq : Q .normal e (r.h.set (h.length + 1) (.loop { lp with st := .exhausted })) (mup base m r.wr r.lk r.h.length)) : kRg base e h m Q r := by
  simp only [kRg, hl, hs, hp]
  exact ⟨by simp, by simpa [hp] using hq⟩

end Go.Proofs.Ytocoadpepofbbaa.AM

/-
  THE PACKAGE diag, part 6: all regions.
-/
set_option linter.unusedVariables false
set_option linter.unusedSimpArgs false
set_option maxRecDepth 10000
namespace Go.Proofs.Ytocoadpepofbbaa.AM
open Go

def rwOf (r : List Pl) : Rw := (r.flatMap plC, r.length, .u 2)
/-- A list of lists that has grown here. -/
def LLR (base : Nat) (H : List ABlk) (v : AV) (rs : List Rw) : Prop :=
  (rs = [] ∧ v = nilSl) ∨ (rs ≠ [] ∧ ∃ bl bs, v = .sl (some ⟨bl, rs.length, 0⟩) rs.length (.u 1) ∧ H[bl]? = some (.row false (rwAt bs rs)) ∧ rwIn H bs rs ∧ (bl :: bs).Nodup ∧ base ≤ bl ∧ (∀ b ∈ bs, base ≤ b))
theorem rwIn_lt {h : List ABlk} : ∀ {bs : List Nat} {rs : List Rw}, rwIn h bs rs → ∀ b ∈ bs, b < h.length
  | [], [], _, b, hb => by simp at hb
  | _ :: _, [], h, _, _ => h.elim
  | [], _ :: _, h, _, _ => h.elim
  | c :: bs, r :: rs, h, b, hb => by
    rcases List.mem_cons.mp hb with rfl | hb
    · exact hlt h.1
    · exact rwIn_lt h.2 b hb
theorem LLR.upd {base : Nat} {H H' : List ABlk} {v : AV} {rs : List Rw} {W : List Nat} (L : LLR base H v rs) (U : Upd H H' W) (hw : ∀ b ∈ W, b < base ∨ H.length ≤ b) : LLR base H' v rs := by
  rcases L with ⟨h1, h2⟩ | ⟨h1, bl, bs, h2, h3, h4, h5, h6, h7⟩
  · exact .inl ⟨h1, h2⟩
  · have k1 : bl ∉ W := fun h => by have := hw _ h; have := hlt h3; omega
    have k2 : ∀ b ∈ bs, b ∉ W := fun b hb h => by have := hw _ h; have := rwIn_lt h4 b hb; have := h7 b hb; omega
    exact .inr ⟨h1, bl, bs, h2, U.get h3 k1, rwIn_upd U k2 h4, h5, h6, h7⟩

def regP (nx : Pl → Pl) (F : Nat) (i : Nat) (s : List (Pl × Unit) × List (List Pl)) (p : Nat) : List (Pl × Unit) × List (List Pl) :=
  match lookIx s.1 (i, p) 0 with
  | some _ => s
  | none => ((regGo nx (i, p) F (i, p)).foldl (fun m x => mset m x ()) s.1, s.2 ++ [regGo nx (i, p) F (i, p)])
def regPs (nx : Pl → Pl) (F i : Nat) (s : List (Pl × Unit) × List (List Pl)) (k : Nat) : List (Pl × Unit) × List (List Pl) := (List.range k).foldl (regP nx F i) s
def regXs (nx : Pl → Pl) (F k : Nat) : List (Pl × Unit) × List (List Pl) := (List.range k).foldl (fun s i => regPs nx F i s 4) ([], [])
theorem regPs_succ (nx : Pl → Pl) (F i : Nat) (s : List (Pl × Unit) × List (List Pl)) (k : Nat) : regPs nx F i s (k + 1) = regP nx F i (regPs nx F i s k) k := by simp [regPs, List.range_succ]
theorem regXs_succ (nx : Pl → Pl) (F k : Nat) : regXs nx F (k + 1) = regPs nx F k (regXs nx F k) 4 := by simp [regXs, List.range_succ]

structure RI (h : List ABlk) (S : List (Pl × Unit) × List (List Pl)) (v4 : AV) (H : List ABlk) : Prop where
  upd : Upd h H []
  hm : H[h.length]? = some (.map true [some .i64, some .i64] (plE S.1))
  h3 : H[h.length + 1]? = some (.row false [.map (some h.length)])
  ll : LLR (h.length + 2) H v4 (S.2.map rwOf)

theorem lkOf_fst {b c x : Nat} {v : List AV} (h : lkOf b v = some (c, x)) : c = b := by
  unfold lkOf at h
  split at h
  · cases h
  · simp at h; exact h.1.symm
theorem mup_own' {base : Nat} {m : Mt} {b n : Nat} {v : List AV} (hlo : m.lo ≤ base) (hb : base ≤ b) : mup base m [b] (lkOf b v) n = m :=
  mup_ge hlo (by simpa using hb) (fun c x h => by rw [lkOf_fst h]; exact hb)

theorem regGo_ne {nx : Pl → Pl} {e x : Pl} {F : Nat} (h : stops nx e F x) : regGo nx e F x ≠ [] := by
  cases F with
  | zero => exact h.elim
  | succ f => simp [regGo]

theorem rg251 {h Hc : List ABlk} {v : AV} {xs : List X} {loops : Int} {es : List E} (D : DP h v xs loops es) {oth : Nat → Nat → Nat × Nat} (ho : OthOk v xs loops es oth) (hM : xs.length ≤ 1000) (upd : Upd h Hc [])
    {F : Nat} (hF : F ≤ 50000) {m : List (Pl × Unit)} (hm : Hc[h.length]? = some (.map true [some .i64, some .i64] (plE m))) (h3 : Hc[h.length + 1]? = some (.row false [.map (some h.length)]))
    {x : Pl} (hx : x.1 < xs.length ∧ x.2 < 4) (hst : stops (nextPl oth) x F x) {E : List AV} (f3 : eget E 3 = .ptr (some ⟨h.length + 1, 1, 0⟩)) (f8 : eget E 8 = .ptr (some ⟨Hc.length + 1, 1, 0⟩)) {c7 : List AV} {QQ : ExK}
    (hq : ∀ H' br, Upd Hc H' [h.length] → H'[h.length]? = some (.map true [some .i64, some .i64] (plE ((regGo (nextPl oth) x F x).foldl (fun m x => mset m x ()) m))) → Hc.length + 6 ≤ br → Hc.length + 6 ≤ H'.length →
      H'[Hc.length + 1]? = some (.row false [.sl (some ⟨br, (rwOf (regGo (nextPl oth) x F x)).1.length, 0⟩) (regGo (nextPl oth) x F x).length (.u 2)]) → H'[br]? = some (.row false (rwOf (regGo (nextPl oth) x F x)).1) → QQ .normal E H' (M0 h)) :
    ∃ r, Ends PR (.f 279) [.yld (Hc.length + 4 + 1), .ptr (some ⟨Hc.length + 2, 2, 0⟩), .ptr (some ⟨Hc.length + 2 + 1, 1, 0⟩)]
      (Hc ++ [.row false c7, .row false [.sl none 0 (.k 0)], .row false (plC x), .row false [v], .defr, .loop ⟨.ready, none, E, [32], yAssign, yBody⟩]) r ∧
      kRg h.length E (Hc ++ [.row false c7, .row false [.sl none 0 (.k 0)], .row false (plC x), .row false [v]]) (M0 h) QQ r := by
  have l1 := hlt hm
  have l2 := hlt h3
  have hle : h.length ≤ Hc.length := upd.1
  obtain ⟨b, ro, ac, cc, ae, ce, hv, hb, hC, hA⟩ := id D
  obtain ⟨r, hr, A⟩ := a279 (h0 := h) (H := Hc ++ [.row false c7, .row false [.sl none 0 (.k 0)], .row false (plC x), .row false [v], .defr, .loop ⟨.ready, none, E, [32], yAssign, yBody⟩])
    (l := Hc.length + 5) (r3 := h.length + 1) (r8 := Hc.length + 1) (bm := h.length) (eb := Hc.length + 2) (db := Hc.length + 3) (e := E) (m := m) (x0 := x) D ho (upd.trans (Upd.app _ _ _)) hM hx
    (by rw [hget_new]; rfl) (hget_some h3) (hget_some hm) f3 f8 (by rw [hget_new]; rfl) (by rw [hget_new]; rfl) (by rw [hget_new]; rfl) (by omega) (by rw [hv]; simp [nilSl]) (by omega) (by omega) (by omega) hF hst
  refine ⟨r, hr, ?_⟩
  obtain ⟨al, am, ar, aupd, awr, alk⟩ := A
  have hlen : (Hc ++ [.row false c7, .row false [.sl none 0 (.k 0)], .row false (plC x), .row false [v]] : List ABlk).length + 1 = Hc.length + 5 := by simp
  refine kRg_of (lp := ⟨.ready, none, E, [32], yAssign, yBody⟩) (by rw [hlen]; exact al) rfl rfl ?_
  rw [hlen, mup_ge (by simp) (fun b hb => by rcases awr b hb with h | h | h <;> omega) (fun b x hb => by rw [alk b x hb]; omega)]
  have hrl := hlt al
  have hlenR : (Hc ++ [.row false c7, .row false [.sl none 0 (.k 0)], .row false (plC x), .row false [v], .defr, .loop ⟨.ready, none, E, [32], yAssign, yBody⟩] : List ABlk).length = Hc.length + 6 := by simp
  rcases ar with ⟨h1, _⟩ | ⟨h1, br, h2, h4, h5⟩
  · exact (regGo_ne hst h1).elim
  · rw [hlenR] at h2
    have hU : Upd Hc r.h [h.length] := ⟨by have := aupd.1; simp at this; omega, fun b hb hw => by
      have := aupd.2 b (by simp; omega) (by simp at hw ⊢; omega)
      rw [this]; exact hget_old hb⟩
    refine hq _ br ⟨by simpa using hU.1, fun b hb hw => by rw [List.getElem?_set_ne (by omega)]; exact hU.2 b hb hw⟩ ?_ h2 ?_ ?_ ?_
    · rw [List.getElem?_set_ne (by omega)]; exact am
    · have := aupd.1; simp at this ⊢; omega
    · rw [List.getElem?_set_ne (by omega), h4]
      simp only [rwOf, flatMap_len plC 2 (fun _ => rfl)]
    · rw [List.getElem?_set_ne (by omega)]; exact h5

theorem c251_l0_wp {Q : ExK} {h : List ABlk} {v : AV} {xs : List X} {loops : Int} {es : List E} (D : DP h v xs loops es) {oth : Nat → Nat → Nat × Nat} (ho : OthOk v xs loops es oth) (hM : xs.length ≤ 1000)
    {F : Nat} (hF : F ≤ 50000) (hst : ∀ x : Pl, x.1 < xs.length → x.2 < 4 → stops (nextPl oth) x F x) {e : List AV} {i : Nat} (hi : i < xs.length) {S : List (Pl × Unit) × List (List Pl)} {H : List ABlk} {x16 x17 : AV}
    (hS : S.2.length ≤ 4 * i)
    (e0 : eget e 0 = v) (e3 : eget e 3 = .ptr (some ⟨h.length + 1, 1, 0⟩)) (e5 : eget e 5 = I i) (e16 : eget e 16 = x16) (e17 : eget e 17 = x17) (e20 : eget e 20 = I 0) (R0 : RI h S (eget e 4) H)
    (hQ : ∀ e' H', eget e' 0 = v → eget e' 3 = .ptr (some ⟨h.length + 1, 1, 0⟩) → eget e' 5 = I i → eget e' 16 = x16 → eget e' 17 = x17 → RI h (regPs (nextPl oth) F i S 4) (eget e' 4) H' → Q .normal e' H' (M0 h)) :
    wp PR h.length false (.loop c251_l0) e H (M0 h) (onBlk 2 Q) := by
  refine wp_range (n := 4) (fun p e' H' m => eget e' 0 = v ∧ eget e' 3 = .ptr (some ⟨h.length + 1, 1, 0⟩) ∧ eget e' 5 = I i ∧ eget e' 16 = x16 ∧ eget e' 17 = x17 ∧ m = M0 h ∧ (regPs (nextPl oth) F i S p).2.length ≤ S.2.length + p ∧
    RI h (regPs (nextPl oth) F i S p) (eget e' 4) H') (by omega) (by simp) ?_ ?_ ?_ e20 ?_ ?_
  · rintro i e h m t v (rfl | rfl | rfl) hJ <;> simpa using hJ
  · rintro i e h m _; rfl
  · exact ⟨e0, e3, e5, e16, e17, rfl, Nat.le_refl _, R0⟩
  · rintro p e Hc _ hp ⟨e0, e3, e5, e16, e17, rfl, hlen, upd, hm, h3, ll⟩ e20
    have hsucc := regPs_succ (nextPl oth) F i S p
    obtain ⟨T, hT⟩ : ∃ T, T = regPs (nextPl oth) F i S p := ⟨_, rfl⟩
    rw [← hT] at hlen hm ll hsucc
    have l1 := hlt hm
    have l2 := hlt h3
    have hle : h.length ≤ Hc.length := upd.1
    rcases hlk : lookIx T.1 (i, p) 0 with _ | ⟨j, u⟩
    · have hTn : regP (nextPl oth) F i T p = ((regGo (nextPl oth) (i, p) F (i, p)).foldl (fun m x => mset m x ()) T.1, T.2 ++ [regGo (nextPl oth) (i, p) F (i, p)]) := by simp [regP, hlk]
      have hfind := plE_find' T.1 (i, p)
      dsimp only at hfind
      obtain ⟨b, ro, ac, cc, ae, ce, hv, hb, hC, hA⟩ := id D
      have har : ∀ l, Ends PR (.f 274) [v, .agg [N i, N p]] (Hc ++ l) ⟨.fn 279 [.ptr (some ⟨(Hc ++ l).length, 2, 0⟩), .ptr (some ⟨(Hc ++ l).length + 1, 1, 0⟩)], (Hc ++ l) ++ [.row false (plC (i, p)), .row false [v]], [], none⟩ := by
        intro l
        rw [hv]
        exact around_c (hget_some (upd.get hb (by simp))) (i, p)
      simp [e0, e3, e5, e16, e17, e20, h3, hm, l1, l2, hget_old, hset_old, hget_at, hget_at0, hset_at, hset_at0, shape_pl, hfind, hlk, mup_own hle, lkOf, ends_eq (har _), -getElem?_pos]
      refine rg251 D ho hM upd hF hm h3 ⟨hi, hp⟩ (hst (i, p) hi hp) ?_ ?_ ?_
      · simp [e3]
      · simp
      intro H' br hU hm' hbr hHl h8 hrow
      have l3 := hlt h8
      have hle' : h.length ≤ H'.length := Nat.le_trans hle hU.1
      have hne : Hc.length + 1 ≠ h.length := by omega
      have h3' := hU.get h3 (by simp)
      have hU' : Upd h H' [] := ⟨hle', fun b hb hw => by rw [hU.2 b (by omega) (by simp; omega)]; exact upd.2 b hb hw⟩
      have hlt2 : T.2.length + 1 ≤ 4 * i + 5 := by omega
      have hby : (T.2.length + 1) * 24 ≤ 140737488355328 := by omega
      rcases ll with ⟨k1, k2⟩ | ⟨k1, bl, bs, k2, k3, k4, k5, k6, k7⟩
      · simp [e0, e3, e5, e16, e17, e20, k2, nilSl, h8, l3, hget_old, hset_old, hget_at, hget_at0, hset_at, hset_at0, -getElem?_pos]
        have hT2 : T.2 = [] := by simpa using k1
        rw [hsucc, hTn, hT2]
        refine ⟨by simp; omega, ?_⟩
        refine ⟨hU'.trans (Upd.app _ _ _), hget_some hm', hget_some h3', .inr ⟨by simp, H'.length + 1, [br], by simp, ?_, ⟨hget_some hrow, trivial⟩, ?_, by omega, ?_⟩⟩
        · rw [hget_new]; simp [rwAt, Rw.at, rwOf]
        · have := hlt hrow
          simp; omega
        · intro b hb; simp at hb; omega
      · have l4' := hlt k3
        have hbr' : br ∉ bs := fun hb => by have := rwIn_lt k4 br hb; omega
        have hbl : bl ≠ br := by omega
        have k4 := rwIn_upd hU (fun b hb => by have := k7 b hb; simp; omega) k4
        have k3 := hU.get k3 (by simp; omega)
        have l4 := hlt k3
        have hlr : (rwAt bs (T.2.map rwOf)).length = T.2.length := by rw [rwAt_len (rwIn_len k4)]; simp
        simp [e0, e3, e5, e16, e17, e20, k2, k3, l4, nilSl, h8, l3, hlr, hby, hget_old, hset_old, hget_at, hget_at0, hset_at, hset_at0, -getElem?_pos]
        rw [hsucc, hTn]
        refine ⟨mup_own' (Nat.le_refl _) (by omega), by simp; omega, ?_⟩
        generalize hK : ABlk.row false (rwAt bs (T.2.map rwOf) ++ [AV.sl (some ⟨br, (rwOf (regGo (nextPl oth) (i, p) F (i, p))).1.length, 0⟩) (regGo (nextPl oth) (i, p) F (i, p)).length (Cap.u 2)]) = K
        have hUx : Upd H' (H'.set bl K) [bl] := Upd.set (by simp)
        have hnb : bl ∉ bs := (List.nodup_cons.mp k5).1
        refine ⟨⟨by simp; omega, fun b hb _ => by rw [hget_old (by simp; omega), List.getElem?_set_ne (by omega)]; exact hU'.2 b hb (by simp)⟩, hget_some (hUx.get hm' (by simp; omega)), hget_some (hUx.get h3' (by simp; omega)),
          .inr ⟨by simp, bl, bs ++ [br], by simp, ?_, ?_, ?_, k6, ?_⟩⟩
        · rw [hget_old (by simpa using l4), List.getElem?_set_self l4, ← hK, List.map_append, List.map_singleton, rwAt_app (rwIn_len k4)]
          simp [Rw.at, rwOf]
        · rw [List.map_append, List.map_singleton]
          refine rwIn_app (hget_some (hUx.get hrow (by simp; exact fun h => hbl h.symm))) ?_
          exact rwIn_upd (hUx.trans (Upd.app _ _ _)) (fun b hb => by simp; rintro rfl; exact hnb hb) k4
        · have h1 := List.nodup_cons.mp k5
          rw [List.nodup_cons]
          refine ⟨by simp; exact ⟨h1.1, hbl⟩, ?_⟩
          rw [List.nodup_append]
          exact ⟨h1.2, by simp, by intro a ha b hb; simp at hb; subst hb; rintro rfl; exact hbr' ha⟩
        · intro b hb
          rcases List.mem_append.mp hb with hb | hb
          · exact k7 b hb
          · simp at hb; omega
    · have hTn : regP (nextPl oth) F i T p = T := by simp [regP, hlk]
      have hfind := plE_find' T.1 (i, p)
      dsimp only at hfind
      simp [e0, e3, e5, e16, e17, e20, h3, hm, l1, l2, hget_old, hset_old, hget_at, hget_at0, hset_at, hset_at0, shape_pl, hfind, hlk, mup_own hle, lkOf, -getElem?_pos]
      rw [hsucc, hTn]
      exact ⟨by omega, upd.trans (Upd.app _ _ _), hget_some hm, hget_some h3, ll.upd (Upd.app _ _ []) (by simp)⟩
  · rintro e H m ⟨e0, e3, e5, e16, e17, rfl, _, R⟩
    exact hQ _ _ e0 e3 e5 e16 e17 R

theorem upd_app {h H : List ABlk} (U : Upd h H []) : ∃ l, H = h ++ l := by
  refine ⟨H.drop h.length, ?_⟩
  have e5 : H.take h.length = h := by
    apply List.ext_getElem?
    intro i
    rw [List.getElem?_take]
    split
    · rename_i hi; exact U.2 i hi (by simp)
    · rw [List.getElem?_eq_none (by omega)]
  conv => lhs; rw [← List.take_append_drop h.length H, e5]

theorem regPs_len (nx : Pl → Pl) (F i : Nat) (s : List (Pl × Unit) × List (List Pl)) : ∀ k, (regPs nx F i s k).2.length ≤ s.2.length + k
  | 0 => by simp [regPs]
  | k + 1 => by
    have := regPs_len nx F i s k
    rw [regPs_succ, regP]
    split
    · omega
    · simp; omega
theorem regXs_len (nx : Pl → Pl) (F : Nat) : ∀ k, (regXs nx F k).2.length ≤ 4 * k
  | 0 => by simp [regXs]
  | k + 1 => by
    have := regXs_len nx F k
    have := regPs_len nx F k (regXs nx F k) 4
    rw [regXs_succ]; omega

theorem c251_l1_wp {Q : ExK} {h : List ABlk} {v : AV} {xs : List X} {loops : Int} {es : List E} (D : DP h v xs loops es) {oth : Nat → Nat → Nat × Nat} (ho : OthOk v xs loops es oth) (hM : xs.length ≤ 1000)
    {F : Nat} (hF : F ≤ 50000) (hst : ∀ x : Pl, x.1 < xs.length → x.2 < 4 → stops (nextPl oth) x F x) {e : List AV} {H : List ABlk}
    (e0 : eget e 0 = v) (e3 : eget e 3 = .ptr (some ⟨h.length + 1, 1, 0⟩)) (e16 : eget e 16 = I xs.length) (e17 : eget e 17 = I 0) (R0 : RI h ([], []) (eget e 4) H)
    (hQ : ∀ e' H', RI h (regXs (nextPl oth) F xs.length) (eget e' 4) H' → Q .normal e' H' (M0 h)) :
    wp PR h.length false (.loop c251_l1) e H (M0 h) (onBlk 0 Q) := by
  refine wp_range (n := xs.length) (fun i e' H' m => eget e' 0 = v ∧ eget e' 3 = .ptr (some ⟨h.length + 1, 1, 0⟩) ∧ eget e' 16 = I xs.length ∧ m = M0 h ∧ RI h (regXs (nextPl oth) F i) (eget e' 4) H') (by omega) (by simp) ?_ ?_ ?_ e17 ?_ ?_
  · rintro i e h m t v (rfl | rfl | rfl) hJ <;> simpa using hJ
  · rintro i e h m ⟨_, _, e16, _⟩; exact e16
  · exact ⟨e0, e3, e16, rfl, R0⟩
  · rintro i e H _ hi ⟨e0, e3, e16, rfl, R⟩ e17
    have hl := regXs_len (nextPl oth) F i
    simp [e0, e3, e16, e17]
    refine c251_l0_wp D ho hM hF hst hi (S := regXs (nextPl oth) F i) (x16 := I xs.length) (x17 := I i) hl ?_ ?_ ?_ ?_ ?_ ?_ ?_ ?_
    · simp [e0]
    · simp [e3]
    · simp
    · simp [e16]
    · simp [e17]
    · simp
    · simpa using R
    · intro e' H' f0 f3 f5 f16 f17 R'
      simp [f0, f3, f5, f16, f17]
      rw [regXs_succ]; exact R'
  · rintro e H m ⟨e0, e3, e16, rfl, R⟩
    exact hQ _ _ R

/-- A list of lists that has been returned. -/
def llRet (h : List ABlk) (rs : List Rw) : AV × List ABlk :=
  if rs = [] then (nilSl, h) else (.sl (some ⟨h.length, rs.length, 0⟩) rs.length (.u 1), h ++ .row false (rwAt (List.range' (h.length + 1) rs.length) rs) :: rs.map fun r => .row false r.1)
def regionsS (oth : Nat → Nat → Nat × Nat) (F M : Nat) : List (List Pl) := (regXs (nextPl oth) F M).2

theorem regions_c {h : List ABlk} {v : AV} {xs : List X} {loops : Int} {es : List E} (D : DP h v xs loops es) {oth : Nat → Nat → Nat × Nat} (ho : OthOk v xs loops es oth) (hM : xs.length ≤ 1000)
    {F : Nat} (hF : F ≤ 50000) (hst : ∀ x : Pl, x.1 < xs.length → x.2 < 4 → stops (nextPl oth) x F x) :
    Ends PR (.f 251) [v] h ⟨(llRet h ((regionsS oth F xs.length).map rwOf)).1, (llRet h ((regionsS oth F xs.length).map rwOf)).2, [], none⟩ := by
  obtain ⟨b, ro, ac, cc, ae, ce, rfl, hb, hC, hA⟩ := id D
  have hb' := fun l => hget_some (l := l) hb
  refine ends_of p251 (by simp [c251]) ?_
  simp [c251, hb, hb']
  refine c251_l1_wp D ho hM hF hst ?_ ?_ ?_ ?_ ?_ ?_
  · simp
  · simp
  · simp
  · simp
  · simp
    exact ⟨Upd.app _ _ _, by simp [plE], by simp, .inl ⟨rfl, rfl⟩⟩
  · intro e H R
    simp
    obtain ⟨upd, hm, h3, ll⟩ := R
    have ht : regionsS oth F xs.length = (regXs (nextPl oth) F xs.length).2 := rfl
    rw [ht]
    generalize regXs (nextPl oth) F xs.length = S at *
    rcases ll with ⟨k1, k2⟩ | ⟨k1, bl, bs, k2, k3, k4, k5, k6, k7⟩
    · obtain ⟨l, rfl⟩ := upd_app upd
      rw [k2, llRet, if_pos k1]
      exact gc_none rfl
    · rw [k2, llRet, if_neg k1]
      refine gc_LL upd k3 k4 ?_ ⟨by omega, fun b hb => by have := k7 b hb; omega⟩ k5
      intro r hr
      obtain ⟨q, _, rfl⟩ := List.mem_map.mp hr
      exact refsL_flat (fun x => plC_refs x) q

end Go.Proofs.Ytocoadpepofbbaa.AM
