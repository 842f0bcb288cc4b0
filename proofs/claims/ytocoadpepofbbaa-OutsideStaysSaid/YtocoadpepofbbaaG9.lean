/-
  COMPACTION: what a call leaves stands to the model's heap as before.
-/
import Derived.Test.YtocoadpepofbbaaG8
set_option linter.unusedVariables false
set_option linter.unusedSimpArgs false
namespace Go.Proofs.Ytocoadpepofbbaa.AM
open Go

/-- The renaming carries one embedding into the other. -/
def RenOk (ρ : Nat → Option Nat) (ι ι' : Emb) : Prop := ∀ b b' g, ρ b = some b' → ι' b' g = ι b g

mutual
theorem ren_rel0 {ρ : Nat → Option Nat} {ι ι' : Emb} (hρ : RenOk ρ ι ι') : ∀ {v : AV} {x : Value}, VRel ι v x → ∀ {v' : AV}, ren ρ v = some v' → VRel ι' v' x
  | _, _, .int k n, v', h => by simp [ren] at h; subst h; exact .int k n
  | _, _, .bool b, v', h => by simp [ren] at h; subst h; exact .bool b
  | _, _, .str s, v', h => by simp [ren] at h; subst h; exact .str s
  | _, _, .ptrN, v', h => by simp [ren] at h; subst h; exact .ptrN
  | _, _, .ptr (a := a) hl, v', h => by
    simp only [ren] at h
    split at h
    · rename_i b hb
      cases h
      exact .ptr (a := { a with b }) (by rw [hρ _ _ _ hb]; exact hl)
    · cases h
  | _, _, .slN, v', h => by simp [ren] at h; subst h; exact .slN
  | _, _, .sl (a := a) (l := l) hl h1 h2 h3, v', h => by
    simp only [ren] at h
    split at h
    · rename_i b hb
      cases h
      refine .sl (a := { a with b }) (l := l) (by rw [hρ _ _ _ hb]; exact hl) h1 ?_ h3
      unfold CapOk at h2 ⊢
      exact h2
    · cases h
  | _, _, .mapN, v', h => by simp [ren] at h; subst h; exact .mapN
  | _, _, .map hl, v', h => by
    simp only [ren] at h
    split at h
    · rename_i b hb
      cases h
      exact .map (by rw [hρ _ _ _ hb]; exact hl)
    · cases h
  | _, _, .fn hv, v', h => by
    simp only [ren] at h
    split at h
    · rename_i cs hcs
      cases h
      exact .fn (renL_rel0 hρ hv hcs)
    · cases h
  | _, _, .yld hl, v', h => by
    simp only [ren] at h
    split at h
    · rename_i b hb
      cases h
      exact .yld (by rw [hρ _ _ _ hb]; exact hl)
    · cases h
  | _, _, .nilFn, v', h => by simp [ren] at h; subst h; exact .nilFn
  | _, _, .agg hv, v', h => by
    simp only [ren] at h
    split at h
    · rename_i cs hcs
      cases h
      exact .agg (renL_rel0 hρ hv hcs)
    · cases h
  | _, _, .tup hv, v', h => by
    simp only [ren] at h
    split at h
    · rename_i cs hcs
      cases h
      exact .tup (renL_rel0 hρ hv hcs)
    · cases h
theorem renL_rel0 {ρ : Nat → Option Nat} {ι ι' : Emb} (hρ : RenOk ρ ι ι') : ∀ {v : List AV} {x : List Value}, VRelL ι v x → ∀ {v' : List AV}, renL ρ v = some v' → VRelL ι' v' x
  | _, _, .nil, v', h => by simp [renL] at h; subst h; exact .nil
  | _, _, .cons hv ht, v', h => by
    simp only [renL] at h
    split at h
    · rename_i u us hu hus
      cases h
      exact .cons (ren_rel0 hρ hv hu) (renL_rel0 hρ ht hus)
    · cases h
end

theorem ren_rel {ρ : Nat → Option Nat} {ι ι' : Emb} (hρ : RenOk ρ ι ι') {v v' : AV} {x : Value} (h : ren ρ v = some v') (hv : VRel ι v x) : VRel ι' v' x := ren_rel0 hρ hv h
theorem renL_rel {ρ : Nat → Option Nat} {ι ι' : Emb} (hρ : RenOk ρ ι ι') {v v' : List AV} {x : List Value} (h : renL ρ v = some v') (hv : VRelL ι v x) : VRelL ι' v' x := renL_rel0 hρ hv h

theorem renL_get {ρ : Nat → Option Nat} : ∀ {cs cs' : List AV}, renL ρ cs = some cs' → cs'.length = cs.length ∧ ∀ (j : Nat) (v' : AV), cs'[j]? = some v' → ∃ v, cs[j]? = some v ∧ ren ρ v = some v'
  | [], cs', h => by simp [renL] at h; subst h; simp
  | v :: vs, cs', h => by
    simp only [renL] at h
    split at h
    · rename_i u us hu hus
      cases h
      obtain ⟨h1, h2⟩ := renL_get hus
      refine ⟨by simp [h1], fun j w hj => ?_⟩
      cases j with
      | zero => simp at hj; subst hj; exact ⟨v, rfl, hu⟩
      | succ j => simpa using h2 j w (by simpa using hj)
    · cases h
theorem RowR.ren {ρ : Nat → Option Nat} {ι ι' : Emb} (hρ : RenOk ρ ι ι') {cs cs' : List AV} {f : Nat → Option Value} (h : renL ρ cs = some cs') (hr : RowR ι cs f) : RowR ι' cs' f := by
  intro j v' hv'
  obtain ⟨v, h1, h2⟩ := (renL_get h).2 j v' hv'
  obtain ⟨x, h3, h4⟩ := hr j v h1
  exact ⟨x, h3, ren_rel hρ h2 h4⟩
theorem renE_rel {ρ : Nat → Option Nat} {ι ι' : Emb} (hρ : RenOk ρ ι ι') : ∀ {es : List (AV × AV)} {ms : List MapEntry}, ERelK ι es ms → ∀ {es' : List (AV × AV)}, renE ρ es = some es' → ERelK ι' es' ms
  | _, _, .nil, es', h => by simp [renE] at h; subst h; exact .nil
  | _, _, .cons hk hv ht, es', h => by
    simp only [renE] at h
    split at h
    · rename_i k v es hk' hv' hes
      cases h
      exact .cons (ren_rel hρ hk' hk) (ren_rel hρ hv' hv) (renE_rel hρ ht hes)
    · cases h

theorem shape1_ren {ρ : Nat → Option Nat} {k : Option IntKind} {v v' : AV} (hs : shape1 k v = true) (h : ren ρ v = some v') : v' = v := by
  unfold shape1 at hs
  split at hs
  · simp [ren] at h; exact h.symm
  · simp [ren] at h; exact h.symm
  · cases hs
theorem shapeL_ren {ρ : Nat → Option Nat} : ∀ {ks : List (Option IntKind)} {vs vs' : List AV}, shapeL ks vs = true → renL ρ vs = some vs' → vs' = vs
  | [], [], vs', _, h => by simp [renL] at h; exact h
  | [], _ :: _, _, hs, _ => by simp [shapeL] at hs
  | _ :: _, [], _, hs, _ => by simp [shapeL] at hs
  | k :: ks, v :: vs, vs', hs, h => by
    simp only [shapeL, Bool.and_eq_true] at hs
    simp only [renL] at h
    split at h
    · rename_i u us hu hus
      cases h
      rw [shape1_ren hs.1 hu, shapeL_ren hs.2 hus]
    · cases h
theorem shapeK_ren {ρ : Nat → Option Nat} {ag : Bool} {ks : List (Option IntKind)} {v v' : AV} (hs : shapeK ag ks v = true) (h : ren ρ v = some v') : v' = v := by
  cases v with
  | agg cs =>
    simp only [shapeK, Bool.and_eq_true] at hs
    simp only [ren] at h
    split at h
    · rename_i cs' hcs
      cases h
      rw [shapeL_ren hs.2 hcs]
    · cases h
  | int k n => simp [ren] at h; exact h.symm
  | bool b => simp [ren] at h; exact h.symm
  | _ =>
    exfalso
    simp only [shapeK, Bool.and_eq_true] at hs
    have := hs.2
    cases ks <;> simp [shapeL, shape1] at this
theorem renE_shape {ρ : Nat → Option Nat} {ag : Bool} {ks : List (Option IntKind)} : ∀ {es es' : List (AV × AV)}, renE ρ es = some es' → (es.all fun p => shapeK ag ks p.1) = true → (es'.all fun p => shapeK ag ks p.1) = true
  | [], es', h, _ => by simp [renE] at h; subst h; rfl
  | (k, v) :: es, es', h, hs => by
    simp only [renE] at h
    split at h
    · rename_i k' v' es2 hk hv hes
      cases h
      simp only [List.all_cons, Bool.and_eq_true] at hs ⊢
      exact ⟨by rw [shapeK_ren hs.1 hk]; exact hs.1, renE_shape hes hs.2⟩
    · cases h

theorem renBlk_gen {ρ : Nat → Option Nat} {k k' : ABlk} (h : renBlk ρ k = some k') : bgen k' = bgen k ∧ own k' = own k ∧ k ≠ .defr ∧ k' ≠ .defr := by
  cases k with
  | row ro cs =>
    simp only [renBlk] at h
    split at h <;> cases h
    rename_i cs' hcs
    exact ⟨(renL_get hcs).1, rfl, by simp, by simp⟩
  | map ag ks es =>
    simp only [renBlk] at h
    split at h <;> cases h
    exact ⟨rfl, rfl, by simp, by simp⟩
  | defr => simp [renBlk] at h
  | loop lp => simp [renBlk] at h

theorem renBlk_rel {P : Program} {B : Nat} {ρ : Nat → Option Nat} {ι ι' : Emb} {w w' : World} {b b' : Nat} {k k' : ABlk} (hρ : RenOk ρ ι ι') (h : renBlk ρ k = some k') (hk : BRel P B ι w b k)
    (hι : ∀ g l, ι' b' g = some l → ι b g = some l) (hw : ∀ l, ι b (bgen k) = some l → w'.heap[l.c]? = w.heap[l.c]?) : BRel P B ι' w' b' k' := by
  have hgen := (renBlk_gen h).1
  cases k with
  | row ro cs =>
    simp only [renBlk] at h
    split at h <;> cases h
    rename_i cs' hcs
    have hlen : cs'.length = cs.length := hgen
    cases ro with
    | true =>
      intro l hl
      have hl0 := hι _ _ hl
      rw [hlen] at hl0
      have h2 := (hk l hl0).ren hρ hcs
      intro j v hv
      obtain ⟨x, h3, h4⟩ := h2 j v hv
      refine ⟨x, ?_, h4⟩
      rw [← h3]
      simp only [World.cell?, hw l hl0]
    | false =>
      intro l hl
      have hl0 := hι _ _ hl
      rw [hlen] at hl0
      obtain ⟨h1, h2, c, e, h3, h4, h5⟩ := hk l hl0
      exact ⟨h1, h2, c, e, by rw [hw l hl0]; exact h3, h4, h5.ren hρ hcs⟩
  | map ag ks es =>
    simp only [renBlk] at h
    split at h <;> cases h
    rename_i es' hes
    intro l hl
    have hl0 := hι _ _ hl
    obtain ⟨h1, h2, ms, mk, h3, h4⟩ := hk l hl0
    exact ⟨h1, renE_shape hes h2, ms, mk, by rw [hw l hl0]; exact h3, renE_rel hρ h4 hes⟩
  | defr => simp [renBlk] at h
  | loop lp => simp [renBlk] at h

/-- The embedding behind the compaction. -/
def gcEmb (lo : Nat) (k : List Nat) (ι : Emb) : Emb := fun b g =>
  if b < lo then ι b g else
  match k[b - lo]? with
  | some b0 => if lo ≤ b0 ∧ idx lo k b0 = some b then ι b0 g else none
  | none => none
theorem gcEmb_lt {lo : Nat} {k : List Nat} {ι : Emb} {b g : Nat} (h : b < lo) : gcEmb lo k ι b g = ι b g := by simp [gcEmb, h]
theorem gcEmb_ren {lo : Nat} {k : List Nat} {ι : Emb} : RenOk (fun b => if b < lo then some b else idx lo k b) ι (gcEmb lo k ι) := by
  intro b b' g h
  dsimp only at h
  split at h
  · rename_i hb
    cases h
    exact gcEmb_lt hb
  · rename_i hb
    obtain ⟨h1, h2, h3⟩ := idx_spec h
    unfold gcEmb
    rw [if_neg (by omega), h3]
    dsimp only
    rw [if_pos ⟨by omega, h⟩]
theorem gcEmb_inv {lo : Nat} {k : List Nat} {ι : Emb} {b g : Nat} {l : Loc} (h : gcEmb lo k ι b g = some l) (hb : lo ≤ b) : ∃ b0, k[b - lo]? = some b0 ∧ lo ≤ b0 ∧ idx lo k b0 = some b ∧ ι b0 g = some l := by
  unfold gcEmb at h
  rw [if_neg (by omega)] at h
  split at h
  · rename_i b0 hb0
    split at h
    · rename_i hc
      exact ⟨b0, hb0, hc.1, hc.2, h⟩
    · cases h
  · cases h

theorem mem_dd {x : Nat} : ∀ {xs acc : List Nat}, x ∈ dd acc xs → x ∈ acc ∨ x ∈ xs
  | [], acc, h => .inl h
  | y :: xs, acc, h => by
    rcases mem_dd (xs := xs) h with h1 | h1
    · split at h1
      · exact .inl h1
      · rcases List.mem_append.1 h1 with h1 | h1
        · exact .inl h1
        · exact .inr (by simp at h1; simp [h1])
    · exact .inr (by simp [h1])

theorem gc_sound {P : Program} {B lo : Nat} {ι ι1 : Emb} {h h1 h' : List ABlk} {w w1 w2 : World} {wr : List Nat} {v v' : AV} {x : Value} (H0 : HRel P B ι h w) (E : Ext P B ι h w wr ι1 h1 w1)
    (HC : HCl lo h1) (hlo1 : h.length ≤ lo) (hlo2 : lo ≤ h1.length) (hg : gc lo v h1 = some (v', h')) (hv : VRel ι1 v x)
    (hd : ∀ b : Nat, h.length ≤ b → b < lo → h1[b]? ≠ some .defr) (hm : Misc w1 w2)
    (hsame : ∀ c, c < w1.heap.size → (∀ (b : Nat) (l : Loc), h.length ≤ b → h1[b]? = some .defr → ι1 b 0 = some l → l.c ≠ c) → w2.heap[c]? = w1.heap[c]?) :
    ∃ ι2, VRel ι2 v' x ∧ Ext P B ι h w wr ι2 h' w2 := by
  have H1 := E.hrel H0
  simp only [gc] at hg
  have hklo : ∀ b0 ∈ dd [] ((refs v).filter (lo ≤ ·) ++ (((refs v).filter (lo ≤ ·)).flatMap (blkRefs h1)).filter (lo ≤ ·) ++ (((((refs v).filter (lo ≤ ·)).flatMap (blkRefs h1)).filter (lo ≤ ·)).flatMap (blkRefs h1)).filter (lo ≤ ·)), lo ≤ b0 := by
    intro b0 hb0
    rcases mem_dd hb0 with h3 | h3
    · cases h3
    · simp only [List.mem_append, List.mem_filter, decide_eq_true_eq] at h3
      rcases h3 with (h3 | h3) | h3 <;> exact h3.2
  generalize dd [] _ = k at hg hklo
  split at hg
  rotate_left
  · cases hg
  rename_i v1 ks hv1 hks
  cases hg
  obtain ⟨hk1, hk2⟩ := renBlks_spec hks
  have hρ : RenOk (fun b => if b < lo then some b else idx lo k b) ι1 (gcEmb lo k ι1) := gcEmb_ren
  have low : ∀ b : Nat, b < lo → (h1.take lo ++ ks)[b]? = h1[b]? := fun b hb => by
    rw [List.getElem?_append_left (by simp; omega), List.getElem?_take_of_lt hb]
  have high : ∀ (b : Nat) (k' : ABlk), lo ≤ b → (h1.take lo ++ ks)[b]? = some k' → ∃ b0 k0, k[b - lo]? = some b0 ∧ h1[b0]? = some k0 ∧ renBlk (fun b => if b < lo then some b else idx lo k b) k0 = some k' := by
    intro b k' hb hk'
    rw [List.getElem?_append_right (by simp; omega)] at hk'
    simp only [List.length_take, Nat.min_eq_left hlo2] at hk'
    exact hk2 _ _ hk'
  have hlen : h.length ≤ (h1.take lo ++ ks).length := by simp; omega
  have lowlt : ∀ b, b < h.length → b < lo := fun b hb => by omega
  -- the places of what is not a block for deferred calls are as they were
  have hplace : ∀ (b : Nat) (kb : ABlk) (l : Loc), h1[b]? = some kb → ι1 b (bgen kb) = some l → (kb ≠ .defr ∨ b < lo) → w2.heap[l.c]? = w1.heap[l.c]? := by
    intro b kb l hkb hl hor
    refine hsame _ (H1.dom _ _ _ hl).1 fun b' l' hb' hdf hl' => ?_
    refine H1.inj b' b .defr kb l' l hdf hkb hl' hl rfl ?_
    rintro rfl
    rw [hkb] at hdf
    cases hdf
    rcases hor with hor | hor
    · exact hor rfl
    · exact hd _ hb' hor hkb
  have lowSub : Sub (rst lo ι1) (gcEmb lo k ι1) := by
    intro b g l hl
    unfold rst at hl
    split at hl
    · rename_i hb
      rw [gcEmb_lt hb]; exact hl
    · cases hl
  refine ⟨gcEmb lo k ι1, ren_rel hρ hv1 hv, ⟨E.misc.trans hm, ?_, hlen, ?_, ?_, E.wrl, E.wrd, ?_, ?_, ?_, ?_, ?_, ?_⟩⟩
  · intro b g l hl
    obtain ⟨_, kb, hkb, _⟩ := H0.dom _ _ _ hl
    rw [gcEmb_lt (lowlt b (lt_of_get hkb))]
    exact E.sub _ _ _ hl
  · intro b hb hn
    rw [low b (lowlt b hb)]
    exact E.keep b hb hn
  · intro b kb hkb
    rw [low b (lowlt b (lt_of_get hkb))]
    exact E.gen b kb hkb
  · intro b hb
    rw [low b (lowlt b (lt_of_get hb))]
    exact E.dk b hb
  · intro b g l hl
    by_cases hb : b < lo
    · rw [gcEmb_lt hb] at hl
      rcases E.new b g l hl with h3 | ⟨k', h3, h4, h5, h6⟩
      · exact .inl h3
      · exact .inr ⟨k', by rw [low b hb]; exact h3, h4, Nat.lt_of_lt_of_le h5 hm.size, h6⟩
    · obtain ⟨b0, h3, h4, h5, h6⟩ := gcEmb_inv hl (by omega)
      obtain ⟨h7, k0, h8, h9⟩ := H1.dom _ _ _ h6
      have hbl : b < (h1.take lo ++ ks).length := by
        have := (idx_spec h5).2.1
        simp only [List.length_append, List.length_take, Nat.min_eq_left hlo2, hk1]
        exact this
      obtain ⟨k', hk'⟩ : ∃ k', (h1.take lo ++ ks)[b]? = some k' := ⟨_, List.getElem?_eq_getElem hbl⟩
      obtain ⟨b1, k1, h10, h11, h12⟩ := high b k' (by omega) hk'
      rw [h3] at h10; cases h10
      rw [h8] at h11; cases h11
      refine .inr ⟨k', hk', by rw [(renBlk_gen h12).1]; exact h9, Nat.lt_of_lt_of_le h7 hm.size, .inl ⟨by omega, E.loc_new H0 (by omega) h6⟩⟩
  · intro b k' hk' hor
    by_cases hb : b < lo
    · rw [low b hb] at hk'
      have hB := (E.blk b k' hk' hor).rst (HC b k' hk' hb)
      refine BRel.keep lowSub hB (fun l hl => ?_) (fun l hl => ?_)
      · rw [gcEmb_lt hb] at hl
        rw [rst_at hb]; exact hl
      · rw [rst_at hb] at hl
        exact hplace b k' l hk' hl (.inr hb)
    · obtain ⟨b0, k0, h3, h4, h5⟩ := high b k' (by omega) hk'
      by_cases hb0 : lo ≤ b0 ∧ idx lo k b0 = some b
      · refine renBlk_rel hρ h5 (E.blk b0 k0 h4 (.inl (by omega))) (fun g l hl => ?_) (fun l hl => ?_)
        · obtain ⟨b1, h6, _, _, h9⟩ := gcEmb_inv hl (by omega)
          rw [h3] at h6; cases h6
          exact h9
        · exact hplace b0 k0 l h4 hl (.inl (renBlk_gen h5).2.2.1)
      · refine BRel.none fun g => ?_
        unfold gcEmb
        rw [if_neg (by omega), h3]
        dsimp only
        rw [if_neg hb0]
  · intro b b' k1 k2 l l' hk1' hk2' hor hor' hl hl' hne
    have src : ∀ (b : Nat) (kb : ABlk) (l : Loc), (h1.take lo ++ ks)[b]? = some kb → (h.length ≤ b ∨ b ∈ wr) → gcEmb lo k ι1 b (bgen kb) = some l →
        ∃ b0 k0, h1[b0]? = some k0 ∧ (h.length ≤ b0 ∨ b0 ∈ wr) ∧ ι1 b0 (bgen k0) = some l ∧ (if b0 < lo then some b0 else idx lo k b0) = some b := by
      intro b kb l hkb hor hl
      by_cases hb : b < lo
      · rw [low b hb] at hkb
        rw [gcEmb_lt hb] at hl
        exact ⟨b, kb, hkb, hor, hl, by rw [if_pos hb]⟩
      · obtain ⟨b0, h3, h4, h5, h6⟩ := gcEmb_inv hl (by omega)
        obtain ⟨b1, k0, h7, h8, h9⟩ := high b kb (by omega) hkb
        rw [h3] at h7; cases h7
        exact ⟨b0, k0, h8, .inl (by omega), by rw [← (renBlk_gen h9).1]; exact h6, by rw [if_neg (by omega)]; exact h5⟩
    obtain ⟨b0, k0, a1, a2, a3, a4⟩ := src b k1 l hk1' hor hl
    obtain ⟨b0', k0', a1', a2', a3', a4'⟩ := src b' k2 l' hk2' hor' hl'
    refine E.inj b0 b0' k0 k0' l l' a1 a1' a2 a2' a3 a3' ?_
    rintro rfl
    rw [a4] at a4'
    cases a4'
    exact hne rfl
  · intro b k' hk' hbl
    by_cases hb : b < lo
    · rw [low b hb] at hk'
      exact E.newOwn b k' hk' hbl
    · obtain ⟨b0, k0, h3, h4, h5⟩ := high b k' (by omega) hk'
      rw [(renBlk_gen h5).2.1]
      have := hklo b0 (List.mem_of_getElem? h3)
      exact E.newOwn b0 k0 h4 (by omega)
  · intro c hc hn
    rw [← E.frame c hc hn]
    refine hsame c (Nat.lt_of_lt_of_le hc E.misc.size) fun b l hb hdf hl => ?_
    have := E.loc_new H0 hb hl
    omega

end Go.Proofs.Ytocoadpepofbbaa.AM

/-
  CALLS: what the abstract machine says of them the model does.
-/
set_option linter.unusedVariables false
set_option linter.unusedSimpArgs false
namespace Go.Proofs.Ytocoadpepofbbaa.AM
open Go

/-! ### results -/
section
variable {P : Program} {B nt : Nat} {ι : Emb} {s : St} {a : Act} {w : World} {fn : Func}

theorem res_one {r : ResultVar} {ar : ARes} {v : AV} (he : ERel ι nt s.e a.tmps) (hblk : ∀ (b : Nat) (ro : Bool) (cs : List AV), s.h[b]? = some (.row ro cs) → BRel P B ι w b (.row ro cs))
    (hr : match r with | .tmp t => ar = .tmp t | .cell a t => ∃ w, wayT P t = some w ∧ ar = .cell w a) (hv : aRes s ar = some v) :
    ∃ x, (match r with | .tmp t => pure (a.tmps.getD t undef) | .cell c t => do loadVar t (← asAddr (a.tmps.getD c undef)) : Sem Value).run P w = .ok x w ∧ VRel ι v x := by
  cases r with
  | tmp t =>
    subst hr
    simp only [aRes, Option.some.injEq] at hv
    subst hv
    exact ⟨_, rfl, he.2 t⟩
  | cell c t =>
    obtain ⟨wy, hw, rfl⟩ := hr
    simp only [aRes] at hv
    have hv0 := he.2 c
    split at hv
    rotate_left
    · cases hv
    rename_i p hp
    rw [hp] at hv0
    obtain ⟨l, hl, hx⟩ := hv0.inv_ptr
    obtain ⟨d, i, hd, hi, rfl⟩ := wayT_spec hw
    have hblk' : ∀ {cs : List AV} {ro : Bool}, s.h[p.b]? = some (.row ro cs) → BRel P B ι w p.b (.row ro cs) := fun h => hblk _ _ _ h
    cases hag : isAggD d
    · simp only [hag, Bool.false_eq_true, if_false] at hv
      have hrow := rd1_row hv
      obtain ⟨ro, cs, hcs, _⟩ := hrow
      obtain ⟨y, h1, h2⟩ := rd1_sound (P := P) (B := B) (w := w) hv hl (fun k hk => by rw [hcs] at hk; cases hk; exact hblk' hcs)
      refine ⟨y, ?_, h2⟩
      simp only [hx, asAddr, Sem.run_bind, Sem.run_pure, Result.andThen_ok, loadVar, run_isAgg hd, hag, Bool.false_eq_true, if_false, run_load, h1]
    · simp only [hag, if_true, Option.map_eq_some_iff] at hv
      obtain ⟨cs, hrd, rfl⟩ := hv
      obtain ⟨ro, c, hc, _⟩ := rdN_row hrd
      obtain ⟨hlen, vs, h1, h2⟩ := rdN_sound (P := P) (B := B) (w := w) hrd hl (fun k hk => by rw [hc] at hk; cases hk; exact hblk' hc)
      have hload := run_loadCells_list (P := P) w ⟨l.c, l.o + p.o, none⟩ vs h2
      rw [← h1.length, hlen] at hload
      refine ⟨.agg vs.toArray, ?_, .agg h1⟩
      simp only [hx, asAddr, Sem.run_bind, Sem.run_pure, Result.andThen_ok, loadVar, run_isAgg hd, hag, if_true, run_sizeOf hi, hload]

abbrev resF (a : Act) (r : ResultVar) : Sem Value := match r with | .tmp t => pure (a.tmps.getD t undef) | .cell c t => do loadVar t (← asAddr (a.tmps.getD c undef))

theorem resL_sound (he : ERel ι nt s.e a.tmps) (hblk : ∀ (b : Nat) (ro : Bool) (cs : List AV), s.h[b]? = some (.row ro cs) → BRel P B ι w b (.row ro cs)) :
    ∀ {rs : List ResultVar} {ars : List ARes} {vs : List AV}, compRes P rs = some ars → aResL s ars = some vs → ∃ xs, (rs.mapM (resF a)).run P w = .ok xs w ∧ VRelL ι vs xs
  | [], ars, vs, hc, hv => by
    simp [compRes] at hc; subst hc
    simp [aResL] at hv; subst hv
    exact ⟨[], by simp [Sem.run_pure], .nil⟩
  | r :: rs, ars, vs, hc, hv => by
    simp only [compRes] at hc
    split at hc
    · rename_i ar ars' ha hars
      cases hc
      simp only [aResL] at hv
      split at hv
      · rename_i v vs' hv1 hvs
        cases hv
        obtain ⟨x, hx1, hx2⟩ := res_one (r := r) (ar := ar) (P := P) he hblk (by
          cases r with
          | tmp t => cases ha; rfl
          | cell a t =>
            simp only [Option.map_eq_some_iff] at ha
            obtain ⟨w, hw, rfl⟩ := ha
            exact ⟨w, hw, rfl⟩) hv1
        obtain ⟨xs, hxs1, hxs2⟩ := resL_sound he hblk hars hvs
        refine ⟨x :: xs, ?_, .cons hx2 hxs2⟩
        rw [List.mapM_cons, Sem.run_bind]
        rw [show (resF a r).run P w = .ok x w from hx1]
        simp only [Result.andThen_ok, Sem.run_bind, hxs1, Sem.run_pure]
      · cases hv
    · cases hc

theorem res_sound {ars : List ARes} {vs : List AV} (hc : compRes P fn.results.toList = some ars) (hv : aResL s ars = some vs) (he : ERel ι nt s.e a.tmps)
    (hblk : ∀ (b : Nat) (ro : Bool) (cs : List AV), s.h[b]? = some (.row ro cs) → BRel P B ι w b (.row ro cs)) : ∃ x, (results fn a.tmps).run P w = .ok x w ∧ VRel ι (tupOf vs) x := by
  obtain ⟨xs, hrun, hrel⟩ := resL_sound he hblk hc hv
  refine ⟨if h : xs.toArray.size = 1 then xs.toArray[0] else .tuple xs.toArray, ?_, ?_⟩
  · unfold results
    have h1 : fn.results.mapM (resF a) = List.toArray <$> fn.results.toList.mapM (resF a) := by
      conv => lhs; rw [← Array.toArray_toList (xs := fn.results)]
      rw [List.mapM_toArray]
    have h2 : (fn.results.mapM (resF a)).run P w = .ok xs.toArray w := by
      rw [h1, ← bind_pure_comp, Sem.run_bind, hrun]
      simp [Sem.run_pure]
    rw [Sem.run_bind]
    erw [h2]
    rfl
  · cases hrel with
    | nil => exact .tup .nil
    | cons h t =>
      cases t with
      | nil => exact h
      | cons h2 t2 =>
        rw [dif_neg (by simp)]
        exact .tup (.cons h (.cons h2 t2))
end

end Go.Proofs.Ytocoadpepofbbaa.AM

/-
  CALLS, all of them: what the abstract machine says the model does.
-/
set_option linter.unusedVariables false
set_option linter.unusedSimpArgs false
namespace Go.Proofs.Ytocoadpepofbbaa.AM
open Go

theorem DRel.blks {n : Nat} {ι : Emb} {h : List ABlk} : ∀ {bs : List Nat} {ds : List Deferred}, DRel n ι h bs ds → ∀ b ∈ bs, h[b]? = some .defr
  | _, _, .nil, b, hb => by cases hb
  | _, _, .cons hn hb hl hnew t, b, hb' => by
    rcases List.mem_cons.1 hb' with rfl | hb'
    · exact hb
    · exact DRel.blks t b hb'

theorem marks_leave {P : Program} {B n : Nat} {ι : Emb} {h1 : List ABlk} {w1 : World} {fn : Func} {tmps : Array Value} {R : Ending → World → Prop} (HR : HRel P B ι h1 w1)
    (hfin : ∀ w2, Misc w1 w2 → (∀ c, (∀ (b : Nat) (l : Loc), n ≤ b → h1[b]? = some .defr → ι b 0 = some l → l.c ≠ c) → w2.heap[c]? = w1.heap[c]?) → ∃ v, (results fn tmps).run P w2 = .ok v w2 ∧ R (.returned v) w2) :
    ∀ {bs : List Nat} {ds : List Deferred}, DRel n ι h1 bs ds → ∀ (w : World), Misc w1 w → (∀ b ∈ bs, ∀ l, ι b 0 = some l → w.heap[l.c]? = some (.deferred (some []))) →
      (∀ c, (∀ (b : Nat) (l : Loc), n ≤ b → h1[b]? = some .defr → ι b 0 = some l → l.c ≠ c) → w.heap[c]? = w1.heap[c]?) → LeavesInM (FW none) 0 P fn tmps R ds .returning w
  | _, _, .nil, w, hm, _, hs => hfin w hm hs
  | _, _, .cons (b := b) (l := l) (bs := bs) (ds := ds) hn hb hl hnew t, w, hm, hd, hs => by
    refine ⟨by simp, .inl ⟨l.c, _, rfl, run_takeDeferred (hd b (by simp) l hl), ?_⟩⟩
    refine marks_leave HR hfin t _ (hm.trans ⟨rfl, rfl, rfl, by simp [World.putObj]⟩) ?_ ?_
    · intro b' hb' l' hl'
      have hne : l'.c ≠ l.c := by
        have hlt := t.lt b' hb'
        have hdf : h1[b']? = some .defr := t.blks b' hb'
        exact HR.inj b' b .defr .defr l' l hdf hb hl' hl rfl (fun e => hnew (e ▸ hb'))
      rw [World.putObj_heap_other hne]
      exact hd b' (by simp [hb']) l' hl'
    · intro c hc
      rw [World.putObj_heap_other (fun e => hc b l hn hb hl e.symm)]
      exact hs c hc

theorem okDefr_spec {base lo : Nat} {h : List ABlk} (hk : okDefr base lo h = true) : ∀ b : Nat, base ≤ b → b < lo → h[b]? ≠ some .defr := by
  intro b h1 h2 h3
  unfold okDefr at hk
  split at hk
  · omega
  · have hm : ABlk.defr ∈ (h.drop base).take (lo - base) := by
      refine List.mem_of_getElem? (i := b - base) ?_
      rw [List.getElem?_take_of_lt (by omega), List.getElem?_drop, show base + (b - base) = b by omega]
      exact h3
    have := List.all_eq_true.1 hk _ hm
    cases this

theorem start_erel {ι : Emb} {args : List AV} {vals : List Value} (h : VRelL ι args vals) {nt : Nat} (hle : args.length ≤ nt) : ERel ι nt args (vals.toArray ++ Array.replicate (nt - vals.toArray.size) undef) := by
  have hlen := h.length
  refine ⟨by simp; omega, fun t => ?_⟩
  have hget : ∀ (l : List AV) (i : Nat), eget l i = (l[i]?).getD undefA := by
    intro l
    induction l with
    | nil => intro i; simp [eget]
    | cons x l ih => intro i; cases i <;> simp [eget, ih]
  rw [hget, Array.getD_eq_getD_getElem?]
  rcases Nat.lt_or_ge t args.length with ht | ht
  · obtain ⟨v, h1, h2⟩ := h.get (j := t) (c := args[t]) (by simp [ht])
    rw [List.getElem?_eq_getElem ht, Array.getElem?_append_left (by simp; omega)]
    simp only [List.getElem?_toArray, h1, Option.getD_some]
    exact h2
  · rw [List.getElem?_eq_none ht]
    rw [Array.getElem?_append_right (by simp; omega)]
    simp only [Option.getD_none, Array.getElem?_replicate]
    split <;> exact undef_rel ι

theorem push_erel {ι : Emb} {nt : Nat} : ∀ {ps : List Nat} {args : List AV} {vals : List Value} {e : List AV} {tmps : Array Value}, ERel ι nt e tmps → VRelL ι args vals → (∀ t ∈ ps, t < nt) →
    ERel ι nt (pushTmps e ps args) ((ps.zip vals).foldl (fun tmps p => tmps.setIfInBounds p.1 p.2) tmps)
  | [], args, vals, e, tmps, h, _, _ => by cases args <;> simpa [pushTmps] using h
  | p :: ps, [], _, e, tmps, h, .nil, _ => by simpa [pushTmps] using h
  | p :: ps, c :: cs, v :: vs, e, tmps, h, .cons hv ht, hlt => by
    simp only [pushTmps, List.zip_cons_cons, List.foldl_cons]
    refine push_erel ?_ ht fun t ht => hlt t (by simp [ht])
    have := ERel.put (a := { tmps := tmps, defers := [] }) h (hlt p (by simp)) hv
    simpa [Act.put] using this

def ExC (x : AExit) (c : Option Code) : Prop := match x with | .normal => c = none | .ret => c = some .ret | .exit i => c = some (.exit i)
theorem pend_of {x : AExit} : ∀ {c : Option Code}, ExC x c → pendRel (if x == .normal then none else some x) c ∧ (c.isNone = (x == .normal)) := by
  intro c h
  cases x with
  | normal => simp only [ExC] at h; subst h; exact ⟨trivial, rfl⟩
  | ret => simp only [ExC] at h; subst h; exact ⟨trivial, rfl⟩
  | exit i => simp only [ExC] at h; subst h; exact ⟨rfl, rfl⟩

theorem compFunc_inv {P : Program} {fn : Func} {af : AFunc} (h : compFunc P fn = some af) : ∃ b, fn.body = some b ∧ fn.name ≠ "runtime.NumGoroutine" ∧ comp P fn.ntmps b = some af.body ∧ compRes P fn.results.toList = some af.res ∧ af.ntmps = fn.ntmps := by
  unfold compFunc at h
  split at h
  · cases h
  · rename_i b hb
    split at h
    · cases h
    · rename_i hn
      split at h
      · rename_i b' rs h1 h2
        cases h
        exact ⟨b, hb, hn, h1, h2, rfl⟩
      · cases h

/-- **THE ABSTRACT MACHINE IS SOUND.** -/
theorem aCall_sound {P : Program} {B : Nat} {pr : FuncId → Option AFunc} (hm : P.follows .mixedOrders = true) (hpr : ∀ f af, pr f = some af → prOf P f = some af) : ∀ n, OkF P B (aCall pr n) ∧ OkY P B (aCall pr n)
  | 0 => ⟨fun ι h w g args vals r hr => by simp [aCall] at hr, fun ι h w g args vals r hr => by simp [aCall] at hr⟩
  | n + 1 => by
    have hinv : ∀ f af, pr f = some af → ∃ fn, P.funcs[f]? = some fn ∧ compFunc P fn = some af := by
      intro f af h
      have := hpr f af h
      unfold prOf at this
      split at this
      · rename_i fn hfn; exact ⟨fn, hfn, this⟩
      · cases this
    have hok : ∀ f af, pr f = some af → okCode af.body = true := by
      intro f af h
      obtain ⟨fn, _, hc⟩ := hinv f af h
      obtain ⟨b, _, _, hb, _⟩ := compFunc_inv hc
      exact comp_ok b hb
    obtain ⟨ihF, ihY⟩ := aCall_sound (B := B) hm hpr n
    have hcl := aCall_cl hok n
    constructor
    · intro ι h w g args vals r hr H hargs hac Hc
      simp only [aCall] at hr
      split at hr
      · cases hr
      rename_i af haf
      obtain ⟨fn, hfn, hcf⟩ := hinv g af haf
      obtain ⟨b, hb, hname, hcb, hcr, hnt⟩ := compFunc_inv hcf
      split at hr
      rotate_left
      · cases hr
      rename_i hle
      split at hr
      · cases hr
      · rename_i x s hne hex
        split at hr
        rotate_left
        · cases hr
        rename_i vs hvs
        split at hr
        rotate_left
        · cases hr
        rename_i v' h' hg
        cases hr
        obtain ⟨hdf, hg⟩ := gcD_inv hg
        refine ⟨⟨fn, b, hfn, hb, hname⟩, ?_⟩
        have S0 : SCl [] h ⟨args, h, h.length, [], none⟩ := .start Hc hac
        have S1 := exec_cl hcl _ hex (comp_ok b hcb) S0
        have hstart := start_erel hargs (nt := fn.ntmps) (by rw [← hnt]; exact hle)
        have X0 : XRel P B fn.ntmps ι h w ⟨args, h, h.length, [], none⟩ ι { tmps := vals.toArray ++ Array.replicate (fn.ntmps - vals.toArray.size) undef, defers := [] } w :=
          ⟨hstart, Ext.same (Misc.refl w) fun _ _ => rfl, [], .nil⟩
        refine callsIn_of_wp_marks (F := FW none) hfn hb trivial ?_
        refine exec_sound (ro := none) hm hcl ihF ihY H b hcb hex S0 X0 ?_
        intro ι1 a1 w1 X1
        have H1 := X1.ext.hrel H
        obtain ⟨bs, hD⟩ := X1.d
        have fin : LeavesInM (FW none) 0 P fn a1.tmps (fun e w' => ∃ v ι', e = .returned v ∧ VRel ι' v' v ∧ Ext P B ι h w s.wr ι' h' w') a1.defers .returning w1 := by
          refine marks_leave H1 ?_ hD w1 (Misc.refl _) (fun b' hb' l hl => (H1.blk b' .defr (hD.blks b' hb') l hl).2) (fun _ _ => rfl)
          intro w2 hm2 hs2
          have hblk : ∀ (b : Nat) (ro : Bool) (cs : List AV), s.h[b]? = some (.row ro cs) → BRel P B ι1 w2 b (.row ro cs) := by
            intro b' ro cs hb'
            refine BRel.keep (Sub.refl _) (H1.blk b' _ hb') (fun _ h => h) (fun l hl => hs2 _ fun b2 l2 hb2 hd2 hl2 => ?_)
            refine H1.inj b2 b' .defr _ l2 l hd2 hb' hl2 hl rfl ?_
            rintro rfl
            rw [hd2] at hb'; cases hb'
          obtain ⟨xv, hx1, hx2⟩ := res_sound (fn := fn) hcr hvs X1.e hblk
          obtain ⟨ι2, hv2, E2⟩ := gc_sound H X1.ext S1.hlo S1.lo.1 S1.lo.2 hg hx2 (okDefr_spec hdf) hm2 (fun c _ hc => hs2 c hc)
          exact ⟨xv, hx1, xv, ι2, rfl, hv2, E2⟩
        cases x with
        | normal => exact fin
        | ret => exact fin
        | exit i => exact (hne i rfl).elim
      · cases hr
    · intro ι h w l args vals r hr H hargs hac Hc loc hloc
      simp only [aCall] at hr
      split at hr
      rotate_left
      · cases hr
      rename_i lp hl
      obtain ⟨hB1, hB2, hB3⟩ := Hc.at hl
      obtain ⟨hBl, rec, hrec, L⟩ := H.blk l _ hl loc hloc
      split at hr
      rotate_left
      · cases hr
      rename_i hcond
      obtain ⟨hlen, hready⟩ := hcond
      refine ⟨rec, hrec, ?_, ?_⟩
      · have := hargs.length
        have h2 : lp.params.length = rec.params.size := by rw [← L.params]; simp
        omega
      split at hr
      rotate_left
      · cases hr
      rename_i s hex
      split at hr
      rotate_left
      · cases hr
      rename_i lp1 hl1
      split at hr
      rotate_left
      · cases hr
      rename_i hready1
      split at hr
      rotate_left
      · cases hr
      rename_i x s2 hex2
      split at hr
      rotate_left
      · cases hr
      rename_i lp2 hl2
      split at hr
      rotate_left
      · cases hr
      rename_i v' h' hg
      cases hr
      obtain ⟨hdf, hg⟩ := gcD_inv hg
      have hlt := lt_of_get hl
      have S0 : SCl [] h ⟨pushTmps lp.e lp.params args, h, h.length, [], none⟩ := .start Hc (pushTmps_cl hB1 hac)
      have S1 := exec_cl hcl _ hex hB2 S0
      have S2 : SCl [l] h { s with h := s.h.set l (.loop { lp1 with st := .busy }), wr := addAll s.wr [l] } := by
        have := S1.loopSet (lp' := { lp1 with st := .busy }) hl1 rfl rfl rfl (wr := addAll s.wr [l]) (fun b hb => mem_addAll.2 (.inl hb)) (fun _ => mem_addAll.2 (.inr (by simp)))
        exact ⟨this.len, this.e, this.hh, this.lo, this.hlo, this.old, this.keep, fun b hb => mem_addAll.2 (.inr hb)⟩
      have S3 := exec_cl hcl _ hex2 hB3 S2
      have hfold : (rec.params.zip vals.toArray).foldl (fun tmps (p : Nat × Value) => tmps.setIfInBounds p.1 p.2) rec.tmps = (lp.params.zip vals).foldl (fun tmps p => tmps.setIfInBounds p.1 p.2) rec.tmps := by
        rw [← Array.foldl_toList, Array.toList_zip, L.params]
      have hE0 := push_erel L.e hargs L.plt
      rw [← hfold] at hE0
      have X0 : XRel P B rec.tmps.size ι h w ⟨pushTmps lp.e lp.params args, h, h.length, [], none⟩ ι { tmps := (rec.params.zip vals.toArray).foldl (fun tmps (p : Nat × Value) => tmps.setIfInBounds p.1 p.2) rec.tmps, defers := [] } w :=
        ⟨hE0, Ext.same (Misc.refl w) fun _ _ => rfl, [], .nil⟩
      refine roundIn_of_wpIn (F := Fence.wide) trivial ?_
      refine exec_sound (ro := some loc.c) hm hcl ihF ihY H rec.assign L.assign hex S0 X0 ?_
      intro ι1 a1 w1 X1
      have H1 := X1.ext.hrel H
      have hl1' : ι1 l 0 = some loc := X1.ext.sub _ _ _ hloc
      obtain ⟨_, rec1, hrec1, L1⟩ := H1.blk l _ hl1 loc hl1'
      have hlt1 : loc.c < w1.heap.size := (H1.dom _ _ _ hl1').1
      refine ⟨_, run_beginRound hrec1 (by rw [L1.st]; exact hready1), ?_⟩
      have E2 : Ext P B ι1 s.h w1 [l] ι1 (s.h.set l (.loop { lp1 with st := .busy })) (w1.putObj loc.c (.loop { rec1 with state := .busy })) := by
        refine Ext.write (k := .loop lp1) (l := loc) hl1 rfl rfl rfl hl1' ⟨rfl, rfl, rfl, by simp [World.putObj]⟩ (fun c hne _ => World.putObj_heap_other hne) ?_
        intro l' hl'
        rw [hl1'] at hl'; cases hl'
        exact ⟨hBl, _, World.putObj_heap_same hlt1, ⟨rfl, L1.pend, L1.e, L1.params, L1.plt, L1.assign, L1.body⟩⟩
      have X2 : XRel P B rec.tmps.size ι h w { s with h := s.h.set l (.loop { lp1 with st := .busy }), wr := addAll s.wr [l] } ι1 a1 (w1.putObj loc.c (.loop { rec1 with state := .busy })) := by
        refine ⟨X1.e, X1.ext.trans H E2 (fun b => ?_), ?_⟩
        · simp only [mem_addAll, List.mem_singleton]
          constructor
          · rintro (h | rfl)
            · exact .inl h
            · exact .inr ⟨rfl, hlt⟩
          · rintro (h | ⟨h, _⟩)
            · exact .inl h
            · exact .inr h
        · obtain ⟨bs, hD⟩ := X1.d
          exact ⟨bs, hD.mono E2.sub E2.dk⟩
      refine exec_sound (ro := some loc.c) hm hcl ihF ihY H rec.body L.body hex2 S2 X2 ?_
      intro ι3 a3 w3 X3
      have H3 := X3.ext.hrel H
      have hl3' : ι3 l 0 = some loc := X3.ext.sub _ _ _ hloc
      obtain ⟨_, rec3, hrec3, L3⟩ := H3.blk l _ hl2 loc hl3'
      have hlt3 : loc.c < w3.heap.size := (H3.dom _ _ _ hl3').1
      have fin : ∀ c : Option Code, ExC x c →
          ∃ v w', (Instr.endRound loc.c c).run P w3 = .ok v w' ∧ ∃ v2 ι', Ending.returned v = .returned v2 ∧ VRel ι' v' v2 ∧ Ext P B ι h w s2.wr ι' h' w' := by
        intro c hc
        obtain ⟨hp1, hp2⟩ := pend_of hc
        refine ⟨_, _, run_endRound c hrec3, .bool c.isNone, ?_⟩
        have E4 : Ext P B ι3 s2.h w3 [l] ι3 (s2.h.set l (.loop { lp2 with st := if x == .normal then .ready else .done, pend := if x == .normal then none else some x })) (w3.putObj loc.c (.loop { rec3 with state := if c.isNone then .ready else .done, pending := c })) := by
          refine Ext.write (k := .loop lp2) (l := loc) hl2 rfl rfl rfl hl3' ⟨rfl, rfl, rfl, by simp [World.putObj]⟩ (fun c hne _ => World.putObj_heap_other hne) ?_
          intro l' hl'
          rw [hl3'] at hl'; cases hl'
          exact ⟨hBl, _, World.putObj_heap_same hlt3, ⟨by rw [hp2], hp1, L3.e, L3.params, L3.plt, L3.assign, L3.body⟩⟩
        have S4 := S3.loopSet (lp' := { lp2 with st := if x == .normal then .ready else .done, pend := if x == .normal then none else some x }) hl2 rfl rfl rfl (wr := s2.wr) (fun b hb => hb) (fun _ => S3.sub l (by simp))
        have E5 := X3.ext.trans H E4 (W := s2.wr) (fun b => by
          simp only [List.mem_singleton]
          constructor
          · exact .inl
          · rintro (h | ⟨rfl, _⟩)
            · exact h
            · exact S3.sub b (by simp))
        have hb : VRel ι3 (.bool (x == .normal)) (.bool c.isNone) := by rw [hp2]; exact .bool _
        obtain ⟨ι2, hv2, E6⟩ := gc_sound H E5 S4.hlo S4.lo.1 S4.lo.2 hg hb (okDefr_spec hdf) (Misc.refl _) (fun _ _ _ => rfl)
        exact ⟨ι2, rfl, hv2, E6⟩
      cases x with
      | normal => exact fin none rfl
      | ret => exact fin (some .ret) rfl
      | exit i => exact fin (some (.exit i)) rfl

end Go.Proofs.Ytocoadpepofbbaa.AM

/-
  MORE FUEL and a larger table give the same answer.
-/
set_option linter.unusedVariables false
set_option linter.unusedSimpArgs false
namespace Go.Proofs.Ytocoadpepofbbaa.AM
open Go

abbrev CallF := Tgt → List AV → List ABlk → Option Ret
def LeC (c c' : CallF) : Prop := ∀ t a h r, c t a h = some r → c' t a h = some r

theorem aOp_mono {c c' : CallF} (hle : LeC c c') {e : List AV} {h : List ABlk} {o : AOp} {r : OpR} (hr : aOp c e h o = some r) : aOp c' e h o = some r := by
  cases o with
  | call f xs =>
    simp only [aOp, Option.map_eq_some_iff] at hr ⊢
    obtain ⟨q, hq, h1⟩ := hr
    exact ⟨q, hle _ _ _ _ hq, h1⟩
  | callV f xs =>
    simp only [aOp] at hr ⊢
    split at hr
    · simp only [Option.map_eq_some_iff] at hr ⊢
      obtain ⟨q, hq, h1⟩ := hr
      exact ⟨q, hle _ _ _ _ hq, h1⟩
    · simp only [Option.map_eq_some_iff] at hr ⊢
      obtain ⟨q, hq, h1⟩ := hr
      exact ⟨q, hle _ _ _ _ hq, h1⟩
    · cases hr
  | _ => exact hr

theorem stepOp_mono {c c' : CallF} (hle : LeC c c') {base : Nat} {o : AOper} {s : St} {p : St × FP} (hr : stepOp c base o s = some p) : stepOp c' base o s = some p := by
  simp only [stepOp] at hr ⊢
  split at hr
  · rename_i hw
    rw [if_pos hw]
    split at hr
    · rename_i r h1
      rw [aOp_mono hle h1]
      exact hr
    · cases hr
  · rename_i hw
    rw [if_neg hw]
    exact hr
theorem runOps_mono {c c' : CallF} (hle : LeC c c') {base : Nat} : ∀ {os : List AOper} {s s' : St}, runOps c base os s = some s' → runOps c' base os s = some s'
  | [], s, s', h => h
  | o :: os, s, s', h => by
    simp only [runOps] at h ⊢
    split at h
    · rename_i s1 f h1
      rw [stepOp_mono hle h1]
      exact runOps_mono hle h
    · cases h
theorem runOpsF_mono {c c' : CallF} (hle : LeC c c') {base : Nat} : ∀ {os : List AOper} {s : St} {p : St × List FP}, runOpsF c base os s = some p → runOpsF c' base os s = some p
  | [], s, p, h => h
  | o :: os, s, p, h => by
    simp only [runOpsF] at h ⊢
    split at h
    · rename_i s1 f h1
      rw [stepOp_mono hle h1]
      split at h
      · rename_i s2 fs h2
        simp only [runOpsF_mono hle h2]
        exact h
      · cases h
    · cases h
theorem iter_mono {f f' : St → Option (AExit × St)} (hf : ∀ s p, f s = some p → f' s = some p) : ∀ {n m : Nat} {s : St} {p : AExit × St}, n ≤ m → iter f n s = some p → iter f' m s = some p
  | 0, m, s, p, _, h => by simp [iter] at h
  | n + 1, 0, s, p, hle, h => by omega
  | n + 1, m + 1, s, p, hle, h => by
    simp only [iter] at h ⊢
    split at h
    · rename_i s1 h1
      rw [hf _ _ h1]
      exact iter_mono hf (by omega) h
    · rename_i hne
      rw [hf _ _ h]
      obtain ⟨x, s'⟩ := p
      cases x with
      | normal => exact absurd h (hne s')
      | _ => rfl

theorem exec_mono {c c' : CallF} (hle : LeC c c') {N N' base : Nat} (hN : N ≤ N') {inR : Bool} : ∀ (ac : ACode) {s : St} {p : AExit × St}, exec c N base inR ac s = some p → exec c' N' base inR ac s = some p
  | .skip, s, p, h => by simpa [exec] using h
  | .region ops chk draw, s, p, h => by
    simp only [exec] at h ⊢
    split at h
    · rename_i hc
      rw [if_pos hc]
      split at h
      · rename_i s1 fs h1
        rw [runOpsF_mono hle h1]
        exact h
      · cases h
    · rename_i hc
      rw [if_neg hc]
      split at h
      · rename_i s1 h1
        rw [runOps_mono hle h1]
        exact h
      · cases h
  | .seq a b, s, p, h => by
    simp only [exec] at h ⊢
    split at h
    · rename_i s1 h1
      rw [exec_mono hle hN a h1]
      exact exec_mono hle hN b h
    · rename_i hne
      rw [exec_mono hle hN a h]
      obtain ⟨x, s'⟩ := p
      cases x with
      | normal => exact absurd h (hne s')
      | _ => rfl
  | .cond q t e, s, p, h => by
    simp only [exec] at h ⊢
    split at h
    · exact exec_mono hle hN t h
    · exact exec_mono hle hN e h
    · cases h
  | .block id b, s, p, h => by
    simp only [exec] at h ⊢
    split at h
    · rename_i i s1 h1
      rw [exec_mono hle hN b h1]
      exact h
    · rename_i hne
      rw [exec_mono hle hN b h]
      obtain ⟨x, s'⟩ := p
      cases x with
      | exit i => exact absurd h (hne i s')
      | _ => rfl
  | .loop b, s, p, h => by
    simp only [exec] at h ⊢
    exact iter_mono (fun s p h => exec_mono hle hN b h) hN h
  | .exit id, s, p, h => by simpa [exec] using h
  | .ret, s, p, h => by simpa [exec] using h
  | .rangeF f ps a b, s, p, h => by
    simp only [exec] at h ⊢
    split at h
    · cases h
    · rename_i hr
      rw [if_neg hr]
      split at h
      · split at h
        · rename_i r h1
          simp only [hle _ _ _ _ h1]
          exact h
        · cases h
      · cases h

theorem aCall_mono {pr pr' : FuncId → Option AFunc} (hpr : ∀ f af, pr f = some af → pr' f = some af) : ∀ {n m : Nat}, n ≤ m → LeC (aCall pr n) (aCall pr' m)
  | 0, m, _, t, a, h, r, hr => by cases t <;> simp [aCall] at hr
  | n + 1, 0, hle, _, _, _, _, _ => by omega
  | n + 1, m + 1, hle, .f f, a, h, r, hr => by
    have ih := aCall_mono hpr (n := n) (m := m) (by omega)
    simp only [aCall] at hr ⊢
    split at hr
    · cases hr
    · rename_i fn hfn
      rw [hpr _ _ hfn]
      dsimp only
      split at hr
      · rename_i hl
        rw [if_pos hl]
        split at hr
        · cases hr
        · rename_i x s hne hex
          rw [exec_mono ih (by omega) _ hex]
          cases x with
          | exit i => exact (hne i rfl).elim
          | _ => exact hr
        · cases hr
      · cases hr
  | n + 1, m + 1, hle, .y l, a, h, r, hr => by
    have ih := aCall_mono hpr (n := n) (m := m) (by omega)
    simp only [aCall] at hr ⊢
    split at hr
    · rename_i lp hl
      split at hr
      · rename_i hc
        rw [if_pos hc]
        split at hr
        · rename_i s hex
          rw [exec_mono ih (by omega) _ hex]
          dsimp only
          split at hr
          · rename_i lp1 hl1
            split at hr
            · rename_i hc1
              rw [if_pos hc1]
              split at hr
              · rename_i x s2 hex2
                rw [exec_mono ih (by omega) _ hex2]
                exact hr
              · cases hr
            · cases hr
          · cases hr
        · cases hr
      · cases hr
    · cases hr

end Go.Proofs.Ytocoadpepofbbaa.AM

/-
  WEAKEST PRECONDITIONS FOR THE ABSTRACT MACHINE: from them follow its runs.
-/
set_option linter.unusedVariables false
set_option linter.unusedSimpArgs false
namespace Go.Proofs.Ytocoadpepofbbaa.AM
open Go

/-- A call ends with a result. -/
def Ends (pr : FuncId → Option AFunc) (t : Tgt) (a : List AV) (h : List ABlk) (r : Ret) : Prop := ∃ n, aCall pr n t a h = some r

/-- What a run has written to older blocks, and where the garbage of its callees begins. -/
structure Mt where
  lo : Nat
  wr : List Nat
  lk : Option (Nat × Nat)

def mup (base : Nat) (m : Mt) (wr : List Nat) (lk : Option (Nat × Nat)) (len : Nat) : Mt :=
  ⟨adj m.lo lk len, addAll m.wr (wr.filter (· < base)), mrg m.lk (cut base lk)⟩

abbrev OpK := AV → List ABlk → List Nat → Option (Nat × Nat) → Option (List Nat) → Prop
abbrev StK := List AV → List ABlk → Mt → Prop
abbrev ExK := AExit → List AV → List ABlk → Mt → Prop

def wpPlain (o : AOp) (e : List AV) (h : List ABlk) (k : OpK) : Prop :=
  match aOp (fun _ _ _ => none) e h o with
  | some r => k r.v r.h r.wr r.lk r.acc
  | none => False

def wpOp (pr : FuncId → Option AFunc) (o : AOp) (e : List AV) (h : List ABlk) (k : OpK) : Prop :=
  match o with
  | .call f args => ∃ r, Ends pr (.f f) (args.map (av e)) h r ∧ k r.v r.h r.wr r.lk none
  | .callV f args => match av e f with
    | .fn g cap => ∃ r, Ends pr (.f g) (args.map (av e) ++ cap) h r ∧ k r.v r.h r.wr r.lk none
    | .yld l => ∃ r, Ends pr (.y l) (args.map (av e)) h r ∧ k r.v r.h r.wr r.lk none
    | _ => False
  | o => wpPlain o e h k

def setD (e : List AV) : Option Nat → AV → List AV
  | some d, v => eset e d v
  | none, _ => e

def wpStep (pr : FuncId → Option AFunc) (base : Nat) (o : AOper) (e : List AV) (h : List ABlk) (m : Mt) (k : List AV → List ABlk → Mt → FP → Prop) : Prop :=
  match wantedA e o.guard with
  | true => wpOp pr o.op e h fun v h' wr lk acc => k (setD e o.dst v) h' (mup base m wr lk h'.length) ⟨wr, acc⟩
  | false => k (setD e o.dst undefA) h m ⟨[], some []⟩

def wpOps (pr : FuncId → Option AFunc) (base : Nat) : List AOper → List AV → List ABlk → Mt → StK → Prop
  | [], e, h, m, Q => Q e h m
  | o :: os, e, h, m, Q => wpStep pr base o e h m fun e h m _ => wpOps pr base os e h m Q
def wpOpsF (pr : FuncId → Option AFunc) (base : Nat) : List AOper → List FP → List AV → List ABlk → Mt → (List FP → StK) → Prop
  | [], fs, e, h, m, Q => Q fs e h m
  | o :: os, fs, e, h, m, Q => wpStep pr base o e h m fun e h m f => wpOpsF pr base os (fs ++ [f]) e h m Q

def onSeq (k : StK) (Q : ExK) : ExK := fun x e h m =>
  match x with
  | .normal => k e h m
  | x => Q x e h m
def onBlk (id : Nat) (Q : ExK) : ExK := fun x e h m =>
  match x with
  | .exit i => if i = id then Q .normal e h m else Q (.exit i) e h m
  | x => Q x e h m

def itW (w : List AV → List ABlk → Mt → ExK → Prop) (Q : ExK) : Nat → StK
  | 0 => fun _ _ _ => False
  | n + 1 => fun e h m => w e h m (onSeq (itW w Q n) Q)

def wp (pr : FuncId → Option AFunc) (base : Nat) (inR : Bool) : ACode → List AV → List ABlk → Mt → ExK → Prop
  | .skip, e, h, m, Q => Q .normal e h m
  | .region ops chk draw, e, h, m, Q =>
    if draw = true ∧ chk ≠ [] then wpOpsF pr base ops [] e h m fun fs e h m => chkFP fs chk = true ∧ Q .normal e h m
    else wpOps pr base ops e h m (Q .normal)
  | .seq a b, e, h, m, Q => wp pr base inR a e h m (onSeq (fun e h m => wp pr base inR b e h m Q) Q)
  | .cond c t f, e, h, m, Q =>
    match av e c with
    | .bool true => wp pr base inR t e h m Q
    | .bool false => wp pr base inR f e h m Q
    | _ => False
  | .block id b, e, h, m, Q => wp pr base inR b e h m (onBlk id Q)
  | .loop b, e, h, m, Q => ∃ n, itW (wp pr base inR b) Q n e h m
  | .exit id, e, h, m, Q => Q (.exit id) e h m
  | .ret, e, h, m, Q => Q .ret e h m
  | .rangeF f params assign body, e, h, m, Q =>
    inR = false ∧
    match av e f with
    | .fn g cap => ∃ r, Ends pr (.f g) (.yld (h.length + 1) :: cap) ((h ++ [.defr]) ++ [.loop ⟨.ready, none, e, params, assign, body⟩]) r ∧
      match r.h[h.length + 1]? with
      | some (.loop lp) => lp.st ≠ .busy ∧
        Q (lp.pend.getD .normal) e (r.h.set (h.length + 1) (.loop { lp with st := .exhausted })) (mup base m r.wr r.lk r.h.length)
      | _ => False
    | _ => False

variable {pr : FuncId → Option AFunc}

theorem aCall_up {n m : Nat} (h : n ≤ m) : LeC (aCall pr n) (aCall pr m) := aCall_mono (fun _ _ h => h) h

theorem call_eq {n : Nat} {t : Tgt} {a : List AV} {h : List ABlk} {r : Ret} (he : aCall pr n t a h = some r) {m : Nat} (hm : n ≤ m) : aCall pr m t a h = some r := aCall_up hm _ _ _ _ he

theorem wpPlain_sound {o : AOp} {e : List AV} {h : List ABlk} {k : OpK} (hw : wpPlain o e h k) : ∃ r, aOp (fun _ _ _ => none) e h o = some r ∧ k r.v r.h r.wr r.lk r.acc := by
  unfold wpPlain at hw
  split at hw
  · exact ⟨_, ‹_›, hw⟩
  · exact hw.elim

theorem wpOp_sound {o : AOp} {e : List AV} {h : List ABlk} {k : OpK} (hw : wpOp pr o e h k) : ∃ n r, aOp (aCall pr n) e h o = some r ∧ k r.v r.h r.wr r.lk r.acc := by
  unfold wpOp at hw
  split at hw
  · obtain ⟨r, ⟨n, hn⟩, hk⟩ := hw
    exact ⟨n, ⟨r.v, r.h, r.wr, r.lk, none⟩, by simp [aOp, hn], hk⟩
  · split at hw
    · rename_i heq
      obtain ⟨r, ⟨n, hn⟩, hk⟩ := hw
      exact ⟨n, ⟨r.v, r.h, r.wr, r.lk, none⟩, by simp [aOp, heq, hn], hk⟩
    · rename_i heq
      obtain ⟨r, ⟨n, hn⟩, hk⟩ := hw
      exact ⟨n, ⟨r.v, r.h, r.wr, r.lk, none⟩, by simp [aOp, heq, hn], hk⟩
    · exact hw.elim
  · obtain ⟨r, hr, hk⟩ := wpPlain_sound hw
    exact ⟨0, r, aOp_mono (fun t a h r hr => by cases hr) hr, hk⟩

abbrev toSt (e : List AV) (h : List ABlk) (m : Mt) : St := ⟨e, h, m.lo, m.wr, m.lk⟩

theorem wpStep_sound {base : Nat} {o : AOper} {e : List AV} {h : List ABlk} {m : Mt} {k : List AV → List ABlk → Mt → FP → Prop} (hw : wpStep pr base o e h m k) :
    ∃ n e' h' m' f, stepOp (aCall pr n) base o (toSt e h m) = some (toSt e' h' m', f) ∧ k e' h' m' f := by
  unfold wpStep at hw
  split at hw
  · rename_i hg
    obtain ⟨n, r, hr, hk⟩ := wpOp_sound hw
    refine ⟨n, _, _, _, _, ?_, hk⟩
    simp only [stepOp, hg, hr, if_true]
    cases o.dst <;> rfl
  · rename_i hg
    refine ⟨0, _, _, _, _, ?_, hw⟩
    simp only [stepOp, hg]
    cases o.dst <;> rfl

theorem wpOps_sound {base : Nat} {Q : StK} : ∀ {os : List AOper} {e : List AV} {h : List ABlk} {m : Mt}, wpOps pr base os e h m Q →
    ∃ n e' h' m', runOps (aCall pr n) base os (toSt e h m) = some (toSt e' h' m') ∧ Q e' h' m'
  | [], e, h, m, hw => ⟨0, e, h, m, rfl, hw⟩
  | o :: os, e, h, m, hw => by
    obtain ⟨n1, e1, h1, m1, f, h11, hk⟩ := wpStep_sound hw
    obtain ⟨n2, e2, h2, m2, h22, hq⟩ := wpOps_sound hk
    refine ⟨max n1 n2, e2, h2, m2, ?_, hq⟩
    simp only [runOps]
    rw [stepOp_mono (aCall_up (Nat.le_max_left _ _)) h11]
    exact runOps_mono (aCall_up (Nat.le_max_right _ _)) h22

theorem wpOpsF_sound {base : Nat} {Q : List FP → StK} : ∀ {os : List AOper} {fs : List FP} {e : List AV} {h : List ABlk} {m : Mt}, wpOpsF pr base os fs e h m Q →
    ∃ n e' h' m' gs, runOpsF (aCall pr n) base os (toSt e h m) = some (toSt e' h' m', gs) ∧ Q (fs ++ gs) e' h' m'
  | [], fs, e, h, m, hw => ⟨0, e, h, m, [], rfl, by simpa [wpOpsF] using hw⟩
  | o :: os, fs, e, h, m, hw => by
    obtain ⟨n1, e1, h1, m1, f, h11, hk⟩ := wpStep_sound hw
    obtain ⟨n2, e2, h2, m2, gs, h22, hq⟩ := wpOpsF_sound hk
    refine ⟨max n1 n2, e2, h2, m2, f :: gs, ?_, by simpa using hq⟩
    simp only [runOpsF]
    rw [stepOp_mono (aCall_up (Nat.le_max_left _ _)) h11]
    simp only [runOpsF_mono (aCall_up (Nat.le_max_right n1 n2)) h22]

theorem itW_sound {f : Nat → St → Option (AExit × St)} (hf : ∀ n n' s p, n ≤ n' → f n s = some p → f n' s = some p) {w : List AV → List ABlk → Mt → ExK → Prop}
    (hw : ∀ {e h m Q}, w e h m Q → ∃ n x e' h' m', f n (toSt e h m) = some (x, toSt e' h' m') ∧ Q x e' h' m') {Q : ExK} :
    ∀ (k : Nat) {e : List AV} {h : List ABlk} {m : Mt}, itW w Q k e h m → ∃ n x e' h' m', iter (f n) k (toSt e h m) = some (x, toSt e' h' m') ∧ Q x e' h' m'
  | 0, e, h, m, hk => hk.elim
  | k + 1, e, h, m, hk => by
    obtain ⟨n1, x, e1, h1, m1, h11, hq⟩ := hw hk
    cases x with
    | normal =>
      obtain ⟨n2, x2, e2, h2, m2, h22, hq2⟩ := itW_sound hf hw k hq
      refine ⟨max n1 n2, x2, e2, h2, m2, ?_, hq2⟩
      simp only [iter]
      rw [hf _ _ _ _ (Nat.le_max_left n1 n2) h11]
      exact iter_mono (fun s p h => hf _ _ _ _ (Nat.le_max_right n1 n2) h) (Nat.le_refl _) h22
    | exit i => exact ⟨n1, .exit i, e1, h1, m1, by simp only [iter, h11], hq⟩
    | ret => exact ⟨n1, .ret, e1, h1, m1, by simp only [iter, h11], hq⟩

theorem exec_up {base : Nat} {inR : Bool} {c : ACode} {n n' : Nat} (s : St) (p : AExit × St) (hn : n ≤ n') (h : exec (aCall pr n) n base inR c s = some p) : exec (aCall pr n') n' base inR c s = some p :=
  exec_mono (aCall_up hn) hn c h

theorem wp_sound {base : Nat} {inR : Bool} : ∀ (c : ACode) {e : List AV} {h : List ABlk} {m : Mt} {Q : ExK}, wp pr base inR c e h m Q →
    ∃ n x e' h' m', exec (aCall pr n) n base inR c (toSt e h m) = some (x, toSt e' h' m') ∧ Q x e' h' m'
  | .skip, e, h, m, Q, hw => ⟨0, .normal, e, h, m, rfl, hw⟩
  | .region ops chk draw, e, h, m, Q, hw => by
    simp only [wp] at hw
    split at hw
    · rename_i hc
      obtain ⟨n, e', h', m', gs, hr, hck, hq⟩ := wpOpsF_sound hw
      refine ⟨n, .normal, e', h', m', ?_, hq⟩
      simp only [exec, if_pos hc, hr]
      simp only [List.nil_append] at hck
      simp [hck]
    · rename_i hc
      obtain ⟨n, e', h', m', hr, hq⟩ := wpOps_sound hw
      refine ⟨n, .normal, e', h', m', ?_, hq⟩
      simp only [exec, if_neg hc, hr]
  | .seq a b, e, h, m, Q, hw => by
    obtain ⟨n1, x, e1, h1, m1, h11, hq⟩ := wp_sound a hw
    cases x with
    | normal =>
      obtain ⟨n2, x2, e2, h2, m2, h22, hq2⟩ := wp_sound b hq
      refine ⟨max n1 n2, x2, e2, h2, m2, ?_, hq2⟩
      simp only [exec, exec_up _ _ (Nat.le_max_left n1 n2) h11]
      exact exec_up _ _ (Nat.le_max_right n1 n2) h22
    | exit i => exact ⟨n1, .exit i, e1, h1, m1, by simp only [exec, h11], hq⟩
    | ret => exact ⟨n1, .ret, e1, h1, m1, by simp only [exec, h11], hq⟩
  | .cond q t f, e, h, m, Q, hw => by
    simp only [wp] at hw
    split at hw
    · rename_i hq
      obtain ⟨n1, x, e1, h1, m1, h11, hq'⟩ := wp_sound t hw
      exact ⟨n1, x, e1, h1, m1, by simp only [exec, hq, h11], hq'⟩
    · rename_i hq
      obtain ⟨n1, x, e1, h1, m1, h11, hq'⟩ := wp_sound f hw
      exact ⟨n1, x, e1, h1, m1, by simp only [exec, hq, h11], hq'⟩
    · exact hw.elim
  | .block id b, e, h, m, Q, hw => by
    obtain ⟨n1, x, e1, h1, m1, h11, hq⟩ := wp_sound b hw
    cases x with
    | normal => exact ⟨n1, .normal, e1, h1, m1, by simp only [exec, h11], hq⟩
    | ret => exact ⟨n1, .ret, e1, h1, m1, by simp only [exec, h11], hq⟩
    | exit i =>
      simp only [onBlk] at hq
      split at hq
      · exact ⟨n1, .normal, e1, h1, m1, by simp only [exec, h11]; rw [if_pos ‹_›], hq⟩
      · exact ⟨n1, .exit i, e1, h1, m1, by simp only [exec, h11]; rw [if_neg ‹_›], hq⟩
  | .loop b, e, h, m, Q, hw => by
    obtain ⟨k, hk⟩ := hw
    obtain ⟨n, x, e', h', m', hi, hq⟩ := itW_sound (f := fun n => exec (aCall pr n) n base inR b) (fun n n' s p hn h => exec_up s p hn h) (fun hw => wp_sound b hw) k hk
    refine ⟨max n k, x, e', h', m', ?_, hq⟩
    simp only [exec]
    exact iter_mono (fun s p h => exec_up s p (Nat.le_max_left n k) h) (Nat.le_max_right n k) hi
  | .exit id, e, h, m, Q, hw => ⟨0, .exit id, e, h, m, rfl, hw⟩
  | .ret, e, h, m, Q, hw => ⟨0, .ret, e, h, m, rfl, hw⟩
  | .rangeF f params assign body, e, h, m, Q, hw => by
    obtain ⟨hr, hw⟩ := hw
    subst hr
    split at hw
    · rename_i g cap hf
      obtain ⟨r, ⟨n, hn⟩, hw⟩ := hw
      split at hw
      · rename_i lp hl
        obtain ⟨hb, hq⟩ := hw
        refine ⟨n, _, _, _, _, ?_, hq⟩
        have hlen : (h ++ [ABlk.defr]).length = h.length + 1 := by simp
        simp only [exec, hf, hlen, hn, hl, if_neg hb]
        cases lp.pend <;> simp [mup]
      · exact hw.elim
    · exact hw.elim

theorem ends_of_wp {f : FuncId} {af : AFunc} {args : List AV} {h : List ABlk} {r : Ret} (hp : pr f = some af) (hl : args.length ≤ af.ntmps)
    (hw : wp pr h.length false af.body args h ⟨h.length, [], none⟩ fun x e h' m => (match x with | .exit _ => False | _ => True) ∧
      ∃ vs v h'', aResL ⟨e, h', 0, [], none⟩ af.res = some vs ∧ gcD h.length m.lo (tupOf vs) h' = some (v, h'') ∧ r = ⟨v, h'', m.wr, m.lk⟩) : Ends pr (.f f) args h r := by
  obtain ⟨n, x, e', h', m', hx, hx1, vs, v, h'', hv, hg, rfl⟩ := wp_sound _ hw
  refine ⟨n + 1, ?_⟩
  have hres : ∀ (l : List ARes), aResL (toSt e' h' m') l = aResL ⟨e', h', 0, [], none⟩ l := by
    intro l
    induction l with
    | nil => rfl
    | cons a l ih => simp only [aResL, ih]; cases a <;> rfl
  simp only [aCall, hp, if_pos hl]
  rw [hx]
  cases x with
  | exit i => exact hx1.elim
  | normal => simp only [hres, hv, hg]
  | ret => simp only [hres, hv, hg]

theorem ends_y {l : Nat} {args : List AV} {h : List ABlk} {r : Ret} {lp : ALoop} (hl : h[l]? = some (.loop lp)) (ha : args.length = lp.params.length) (hs : lp.st = .ready)
    (hw : wp pr h.length true lp.assign (pushTmps lp.e lp.params args) h ⟨h.length, [], none⟩ fun x e1 h1 m1 => x = .normal ∧
      ∃ lp1, h1[l]? = some (.loop lp1) ∧ lp1.st = .ready ∧
        wp pr h.length true lp.body e1 (h1.set l (.loop { lp1 with st := .busy })) ⟨m1.lo, addAll m1.wr [l], m1.lk⟩ fun x e2 h2 m2 =>
          ∃ lp2, h2[l]? = some (.loop lp2) ∧ ∃ v h', gcD h.length m2.lo (.bool (x == .normal)) (h2.set l (.loop { lp2 with st := if x == .normal then .ready else .done, pend := if x == .normal then none else some x })) = some (v, h') ∧
            r = ⟨v, h', m2.wr, m2.lk⟩) : Ends pr (.y l) args h r := by
  obtain ⟨n1, x, e1, h1, m1, hx, rfl, lp1, hl1, hs1, hw1⟩ := wp_sound _ hw
  obtain ⟨n2, x2, e2, h2, m2, hx2, lp2, hl2, v, h', hg, rfl⟩ := wp_sound _ hw1
  refine ⟨max n1 n2 + 1, ?_⟩
  simp only [aCall, hl]
  rw [if_pos ⟨ha, hs⟩]
  have a1 := exec_up _ _ (Nat.le_max_left n1 n2) hx
  have a2 := exec_up _ _ (Nat.le_max_right n1 n2) hx2
  simp only [a1]
  simp only [hl1, hs1, if_true]
  simp only [a2, hl2, hg]

end Go.Proofs.Ytocoadpepofbbaa.AM
