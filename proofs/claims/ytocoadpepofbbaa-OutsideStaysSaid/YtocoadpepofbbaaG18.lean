/-
  THE PACKAGE outside, part 5: a new builder.
-/
import Derived.Test.YtocoadpepofbbaaG17
import Derived.Test.YtocoadpepofbbaaG14
set_option linter.unusedVariables false
set_option linter.unusedSimpArgs false
set_option maxRecDepth 10000
namespace Go.Proofs.Ytocoadpepofbbaa.AM
open Go

theorem gc_three {h l : List ABlk} {v v' : AV} {i j k : Nat} {ro ro' ag : Bool} {ks : List (Option IntKind)} {cs cs' ds : List AV} {es : List (AV × AV)} (hij : i ≠ j) (hik : i ≠ k) (hjk : j ≠ k) (hr : (refs v).filter (h.length ≤ ·) = [h.length + i]) (hl : l[i]? = some (.row ro cs))
    (hr' : (refsL cs).filter (h.length ≤ ·) = [h.length + j, h.length + k]) (hl' : l[j]? = some (.row ro' ds)) (hd : refsL ds = []) (hl2 : l[k]? = some (.map ag ks es)) (he : refsE es = []) (hre : ∀ ρ, renE ρ es = some es)
    (hv : ren (fun b => if b < h.length then some b else if b = h.length + i then some h.length else if b = h.length + j then some (h.length + 1) else if b = h.length + k then some (h.length + 2) else none) v = some v')
    (hc : renL (fun b => if b < h.length then some b else if b = h.length + i then some h.length else if b = h.length + j then some (h.length + 1) else if b = h.length + k then some (h.length + 2) else none) cs = some cs') :
    gc h.length v (h ++ l) = some (v', h ++ [.row ro cs', .row ro' ds, .map ag ks es]) := by
  have hb : blkRefs (h ++ l) (h.length + i) = refsL cs := by simp only [blkRefs, hget_new, hl]
  have hb' : blkRefs (h ++ l) (h.length + j) = [] := by simp only [blkRefs, hget_new, hl', hd]
  have hb2 : blkRefs (h ++ l) (h.length + k) = [] := by simp only [blkRefs, hget_new, hl2, he]
  have e1 : (fun b => if b < h.length then some b else idx h.length [h.length + i, h.length + j, h.length + k] b) = (fun b => if b < h.length then some b else if b = h.length + i then some h.length else if b = h.length + j then some (h.length + 1) else if b = h.length + k then some (h.length + 2) else none) := by
    funext b
    simp only [idx]
    by_cases h1 : h.length + i = b
    · simp [h1]
    · have h1' : ¬ b = h.length + i := fun h => h1 h.symm
      by_cases h2 : h.length + j = b
      · simp [h1, h1', h2]
      · have h2' : ¬ b = h.length + j := fun h => h2 h.symm
        by_cases h3 : h.length + k = b
        · simp [h1, h1', h2, h2', h3]
        · have h3' : ¬ b = h.length + k := fun h => h3 h.symm
          simp [h1, h1', h2, h2', h3, h3']
  have e2 : dd [] ([h.length + i] ++ [h.length + j, h.length + k] ++ []) = [h.length + i, h.length + j, h.length + k] := by
    rw [dd_nodup _ _ (by simp; omega)]; simp
  simp only [gc, hr, List.flatMap_cons, List.flatMap_nil, List.append_nil, hb, hr', hb', hb2, List.filter_nil]
  rw [show ([h.length + i] ++ [h.length + j, h.length + k]) = ([h.length + i] ++ [h.length + j, h.length + k] ++ []) by simp, e2]
  simp only [e1, hv, renBlks, hget_new, hl, hl', hl2, renBlk, hc, hre]
  rw [renL_same ds (by simp [hd])]
  simp

theorem crnE_refs : ∀ (m : List (Pl × Nat)), refsE (crnE m) = []
  | [] => rfl
  | q :: m => by
    have := crnE_refs m
    show refs (.agg (plC q.1)) ++ refs (N q.2) ++ refsE (crnE m) = []
    rw [this]; simp [plC]
theorem crnE_ren (ρ : Nat → Option Nat) : ∀ (m : List (Pl × Nat)), renE ρ (crnE m) = some (crnE m)
  | [] => rfl
  | q :: m => by
    have := crnE_ren ρ m
    show renE ρ ((.agg (plC q.1), N q.2) :: crnE m) = some ((.agg (plC q.1), N q.2) :: crnE m)
    simp only [renE]
    rw [this]; simp [plC]

def crnL (L : List Pl) : List (Pl × Nat) := L.map fun q => (q, 4 * q.1 + q.2)
abbrev kIA : List (Option IntKind) := [some .i64, some .i64]
/-- The heap of a builder that grows. -/
def SB (h : List ABlk) (Bd : ABlk) (a : Option Ad) (c : Cap) (n : Nat) (loops : Int) (L : List Pl) (H : List ABlk) : Prop :=
  (L = [] ∧ H = h ++ [Bd, .map true kIA [], .row false [.sl none 0 (.k 0), .sl a n c, I loops, .map (some (h.length + 1))]]) ∨
  (L ≠ [] ∧ ∃ G0 g, H = h ++ Bd :: .map true kIA (crnE (crnL L)) :: .row false [.sl (some ⟨h.length + 4, L.length * 20, 0⟩) L.length (.u 20), .sl a n c, I loops, .map (some (h.length + 1))] :: G0 :: .row false (List.replicate (L.length * 20) (I 0)) :: g)

theorem c99_l0_wp {Q : ExK} {h H : List ABlk} {Bd : ABlk} {a : Option Ad} {c : Cap} {n : Nat} {loops : Int} {i : Nat} {e : List AV} {x12 x13 : AV} (hn : n ≤ 200) (hi : i < n)
    (e3 : eget e 3 = .ptr (some ⟨h.length + 2, 4, 0⟩)) (e4 : eget e 4 = I i) (e12 : eget e 12 = x12) (e13 : eget e 13 = x13) (e16 : eget e 16 = I 0) (B0 : SB h Bd a c n loops (places i) H)
    (hQ : ∀ e' H', eget e' 3 = .ptr (some ⟨h.length + 2, 4, 0⟩) → eget e' 12 = x12 → eget e' 13 = x13 → SB h Bd a c n loops (places (i + 1)) H' → Q .normal e' H' (M0 h)) :
    wp PR h.length false (.loop c99_l0) e H (M0 h) (onBlk 2 Q) := by
  refine wp_range (n := 4) (fun p e H m => eget e 3 = .ptr (some ⟨h.length + 2, 4, 0⟩) ∧ eget e 4 = I i ∧ eget e 12 = x12 ∧ eget e 13 = x13 ∧ m = M0 h ∧ SB h Bd a c n loops (places i ++ (List.range p).map fun p => (i, p)) H) (by omega) (by simp) ?_ ?_ ?_ e16 ?_ ?_
  · rintro i e h m t v (rfl | rfl | rfl) hJ <;> simpa using hJ
  · rintro i e h m _; rfl
  · exact ⟨e3, e4, e12, e13, rfl, by simpa using B0⟩
  · rintro p e H _ hp ⟨e3, e4, e12, e13, rfl, B⟩ e16
    obtain ⟨L, hL⟩ : ∃ L, L = places i ++ (List.range p).map fun p => (i, p) := ⟨_, rfl⟩
    have hlen : L.length = 4 * i + p := by rw [hL]; simp [places_len]
    have hsucc : places i ++ (List.range (p + 1)).map (fun p => (i, p)) = L ++ [(i, p)] := by rw [hL, List.range_succ]; simp
    have hnew : lookIx (crnL L) (i, p) 0 = none := by
      rw [lookIx_none, crnL, List.map_map]
      intro hm
      obtain ⟨q, hq, he⟩ := List.mem_map.mp hm
      simp at he
      subst he
      rw [hL] at hq
      rcases List.mem_append.mp hq with h1 | h1
      · rw [mem_places] at h1; simp at h1
      · simp at h1
    have hput : ∀ z : Nat, z = 4 * i + p → mput (.agg [N i, N p]) (N z) (crnE (crnL L)) = crnE (crnL (L ++ [(i, p)])) := by
      rintro z rfl
      rw [crnE_put, mset, hnew]; simp [crnL]
    rw [← hL] at B
    have hby : (L.length + 1) * 160 ≤ 140737488355328 := by omega
    rcases B with ⟨h1, rfl⟩ | ⟨h1, G0, g, rfl⟩
    · subst h1
      have hz : 4 * i + p = 0 := by simpa using hlen.symm
      have hp0 := hput 0 hz.symm
      simp only [crnL, crnE, List.map_nil] at hp0
      simp at hp0
      simp [e3, e4, e12, e13, e16, shape_pl, hp0, hsucc, -getElem?_pos]
      have hp0' : mput (.agg [.int .i64 i, .int .i64 p]) (.int .i64 0) [] = [(AV.agg (plC (i, p)), N (4 * i + p))] := hp0
      rw [hp0']
      exact .inr ⟨by simp, _, [], rfl⟩
    · have hp0 := hput L.length hlen
      have h0 : ¬ L.length = 0 := by simpa using h1
      simp [e3, e4, e12, e13, e16, shape_pl, hp0, hby, hsucc, -getElem?_pos]
      refine .inr ⟨by simp, G0, g ++ [.row false (List.replicate 20 (I 0))], ?_⟩
      have hr : List.replicate ((L ++ [(i, p)]).length * 20) (I 0) = List.replicate (L.length * 20) (I 0) ++ List.replicate 20 (I 0) := by
        rw [List.replicate_append_replicate]; congr 1; simp; omega
      rw [hr]
      simp [List.replicate]
      omega
  · rintro e H m ⟨e3, e4, e12, e13, rfl, B⟩
    exact hQ _ _ e3 e12 e13 (by rw [places_succ]; exact B)

theorem c99_l1_wp {Q : ExK} {h : List ABlk} {Bd : ABlk} {a : Option Ad} {c : Cap} {n : Nat} {loops : Int} {e : List AV} (hn : n ≤ 200)
    (e3 : eget e 3 = .ptr (some ⟨h.length + 2, 4, 0⟩)) (e12 : eget e 12 = I n) (e13 : eget e 13 = I 0)
    (hQ : ∀ e' H', eget e' 3 = .ptr (some ⟨h.length + 2, 4, 0⟩) → SB h Bd a c n loops (places n) H' → Q .normal e' H' (M0 h)) :
    wp PR h.length false (.loop c99_l1) e (h ++ [Bd, .map true kIA [], .row false [.sl none 0 (.k 0), .sl a n c, I loops, .map (some (h.length + 1))]]) (M0 h) (onBlk 0 Q) := by
  refine wp_range (n := n) (fun i e H m => eget e 3 = .ptr (some ⟨h.length + 2, 4, 0⟩) ∧ eget e 12 = I n ∧ m = M0 h ∧ SB h Bd a c n loops (places i) H) (by omega) (by simp) ?_ ?_ ?_ e13 ?_ ?_
  · rintro i e h m t v (rfl | rfl | rfl) hJ <;> simpa using hJ
  · rintro i e h m ⟨_, e12, _⟩; exact e12
  · exact ⟨e3, e12, rfl, .inl ⟨rfl, rfl⟩⟩
  · rintro i e H _ hi ⟨e3, e12, rfl, B⟩ e13
    simp [e3, e12, e13]
    refine c99_l0_wp (x12 := I n) (x13 := I i) hn hi ?_ ?_ ?_ ?_ ?_ B ?_
    · simp [e3]
    · simp
    · simp [e12]
    · simp [e13]
    · simp
    · intro e' H' f3 f12 f13 B'
      simp [f3, f12, f13, B']
  · rintro e H m ⟨e3, e12, rfl, B⟩
    exact hQ _ _ e3 B

/-- The blocks of a new builder. -/
def bldBlocks (h : List ABlk) (a : Option Ad) (c : Cap) (xs : List X) (loops : Int) : List ABlk :=
  [.row false [.sl (some ⟨h.length + 1, 80 * xs.length, 0⟩) (4 * xs.length) (.u 20), .sl a xs.length c, I loops, .map (some (h.length + 2))], .row false (List.replicate (80 * xs.length) (I 0)), .map true kIA (crnE (crn xs.length))]

theorem builderOf_c {h : List ABlk} {a : Option Ad} {c : Cap} {xs : List X} {loops : Int} (hlt : ∀ p, a = some p → p.b < h.length) (hn : xs.length ≤ 200) (h0 : xs.length ≠ 0) :
    Ends PR (.f 99) [.agg [.sl a xs.length c, I loops]] h ⟨.ptr (some ⟨h.length, 4, 0⟩), h ++ bldBlocks h a c xs loops, [], none⟩ := by
  refine ends_of p99 (by simp [c99]) ?_
  simp [c99]
  refine c99_l1_wp (c := c) hn rfl rfl rfl ?_
  intro e H f3 B
  rcases B with ⟨h1, _⟩ | ⟨h1, G0, g, rfl⟩
  · have := congrArg List.length h1
    rw [places_len] at this; simp only [List.length_nil] at this; omega
  · have hl := places_len xs.length
    have h80 : 4 * xs.length * 20 = 80 * xs.length := by omega
    rw [hl, h80]
    simp [f3]
    have hrep : refsL (List.replicate (80 * xs.length) (I 0)) = [] := by
      have := refsL_ints (L := List.replicate (80 * xs.length) 0)
      simpa using this
    have hrep' : List.replicate (80 * xs.length) (I 0) = List.replicate (80 * xs.length) (I 0) := rfl
    cases a with
    | none => refine gc_three (i := 2) (j := 4) (k := 1) (ro := false) (ro' := false) (by omega) (by omega) (by omega) ?_ rfl ?_ rfl hrep rfl (crnE_refs _) (fun ρ => crnE_ren ρ _) ?_ ?_ <;> simp
    | some p =>
      have hp := hlt p rfl
      have hp' : ¬ h.length ≤ p.b := by omega
      refine gc_three (i := 2) (j := 4) (k := 1) (ro := false) (ro' := false) (by omega) (by omega) (by omega) ?_ rfl ?_ rfl hrep rfl (crnE_refs _) (fun ρ => crnE_ren ρ _) ?_ ?_ <;> simp [hp, hp']

theorem bld_BP {h : List ABlk} {a : Option Ad} {c : Cap} {xs : List X} {loops : Int} (hA : SlAt h a xs.length 5 (xs.flatMap X.cells)) (hlt : ∀ p, a = some p → p.b < h.length) :
    BP (h ++ bldBlocks h a c xs loops) h.length (h.length + 1) (h.length + 2) (.u 20) xs a c loops :=
  ⟨by rw [hget_new0]; rfl, by rw [hget_new]; rfl, hA.ext, fun p hp => by have := hlt p hp; simp; omega⟩

/-! ### the loop over the pairs -/
def zAssign : ACode := .seq (.region [⟨some 7, .new [.int .i64 0, .int .i64 0], none⟩, ⟨none, .store 2 (.t 7) (.t 56), none⟩] [] false) (.region [⟨some 8, .new [.int .i64 0, .int .i64 0], none⟩, ⟨none, .store 2 (.t 8) (.t 57), none⟩] [] false)
def zBody : ACode := .block 5 (.seq (.region [⟨some 58, .build [.int .i64 0, .int .i64 0, .int .i64 0, .int .i64 0] [(0, (1, .c (.int .i64 0))), (1, (1, .c (.int .i64 1))), (2, (1, .c (.int .i64 2))), (3, (1, .c (.int .i64 3)))], none⟩, ⟨some 9, .new [.int .i64 0, .int .i64 0, .int .i64 0, .int .i64 0], none⟩, ⟨none, .store 4 (.t 9) (.t 58), none⟩] [] false) (.seq (.seq (.region [⟨some 59, .fieldAddr 1 (.t 7), none⟩, ⟨some 60, .load none (.t 59), none⟩, ⟨some 61, .fieldAddr 1 (.t 8), none⟩, ⟨some 62, .load none (.t 61), none⟩, ⟨some 63, .bin .neq (.t 60) (.t 62), none⟩] [] false) (.cond (.t 63) (.region [⟨some 64, .build [.int .i64 0, .int .i64 0, .int .i64 0, .int .i64 0] [(0, (1, .c (.int .i64 1))), (1, (1, .c (.int .i64 0))), (2, (1, .c (.int .i64 2))), (3, (1, .c (.int .i64 3)))], none⟩, ⟨none, .store 4 (.t 9) (.t 64), none⟩] [] false) .skip)) (.region [⟨some 65, .load none (.t 1), none⟩, ⟨some 66, .nilCheck (.t 65), none⟩, ⟨some 67, .fieldAddr 0 (.t 66), none⟩, ⟨some 68, .load (some 2) (.t 7), none⟩, ⟨some 69, .load (some 2) (.t 8), none⟩, ⟨some 70, .load (some 4) (.t 9), none⟩, ⟨some 71, .call 177 [.t 67, .t 68, .t 69, .t 70], none⟩] [] true)))
theorem zAssign_wp (base : Nat) (e : List AV) (h : List ABlk) (m : Mt) (Q : ExK) : wp PR base true zAssign e h m Q = wp PR base true (.seq (.region [⟨some 7, .new [.int .i64 0, .int .i64 0], none⟩, ⟨none, .store 2 (.t 7) (.t 56), none⟩] [] false) (.region [⟨some 8, .new [.int .i64 0, .int .i64 0], none⟩, ⟨none, .store 2 (.t 8) (.t 57), none⟩] [] false)) e h m Q := (rfl)
theorem zBody_wp (base : Nat) (e : List AV) (h : List ABlk) (m : Mt) (Q : ExK) : wp PR base true zBody e h m Q = wp PR base true (.block 5 (.seq (.region [⟨some 58, .build [.int .i64 0, .int .i64 0, .int .i64 0, .int .i64 0] [(0, (1, .c (.int .i64 0))), (1, (1, .c (.int .i64 1))), (2, (1, .c (.int .i64 2))), (3, (1, .c (.int .i64 3)))], none⟩, ⟨some 9, .new [.int .i64 0, .int .i64 0, .int .i64 0, .int .i64 0], none⟩, ⟨none, .store 4 (.t 9) (.t 58), none⟩] [] false) (.seq (.seq (.region [⟨some 59, .fieldAddr 1 (.t 7), none⟩, ⟨some 60, .load none (.t 59), none⟩, ⟨some 61, .fieldAddr 1 (.t 8), none⟩, ⟨some 62, .load none (.t 61), none⟩, ⟨some 63, .bin .neq (.t 60) (.t 62), none⟩] [] false) (.cond (.t 63) (.region [⟨some 64, .build [.int .i64 0, .int .i64 0, .int .i64 0, .int .i64 0] [(0, (1, .c (.int .i64 1))), (1, (1, .c (.int .i64 0))), (2, (1, .c (.int .i64 2))), (3, (1, .c (.int .i64 3)))], none⟩, ⟨none, .store 4 (.t 9) (.t 64), none⟩] [] false) .skip)) (.region [⟨some 65, .load none (.t 1), none⟩, ⟨some 66, .nilCheck (.t 65), none⟩, ⟨some 67, .fieldAddr 0 (.t 66), none⟩, ⟨some 68, .load (some 2) (.t 7), none⟩, ⟨some 69, .load (some 2) (.t 8), none⟩, ⟨some 70, .load (some 4) (.t 9), none⟩, ⟨some 71, .call 177 [.t 67, .t 68, .t 69, .t 70], none⟩] [] true)))) e h m Q := (rfl)

/-- How two faces along an arc are joined. -/
def jp (x y : Nat × Nat) : List AV := if x.2 = y.2 then idP else swP
def joinP (L : List AV) (x y : Nat × Nat) : List AV := joinF L x.1 x.2 y.1 y.2 (jp x y)
theorem jp_PP (x y : Nat × Nat) : PP (jp x y) := by unfold jp PP; split <;> simp

theorem set_back {H : List ABlk} {l fb : Nat} {A X B : ABlk} (hl : H[l]? = some B) (hne : l ≠ fb) : ((H.set l A).set fb X).set l B = H.set fb X := by
  apply List.ext_getElem?
  intro i
  by_cases h1 : l = i
  · subst h1
    rw [List.getElem?_set_self (by simpa using hlt hl), List.getElem?_set_ne hne.symm, hl]
  · rw [List.getElem?_set_ne h1]
    by_cases h2 : fb = i
    · subst h2
      by_cases h3 : fb < H.length
      · rw [List.getElem?_set_self (by simpa using h3), List.getElem?_set_self h3]
      · rw [List.getElem?_eq_none (by simpa using h3), List.getElem?_eq_none (by simpa using h3)]
    · rw [List.getElem?_set_ne h2, List.getElem?_set_ne h1, List.getElem?_set_ne h2]

theorem y100 {H : List ABlk} {l b fb t1 n : Nat} {cp : Cap} {rest L : List AV} {e : List AV} {x y : Nat × Nat}
    (hl : H[l]? = some (.loop ⟨.ready, none, e, [56, 57], zAssign, zBody⟩)) (h1 : H[t1]? = some (.row false [.ptr (some ⟨b, 4, 0⟩)])) (e1 : eget e 1 = .ptr (some ⟨t1, 1, 0⟩))
    (hb : H[b]? = some (.row false (.sl (some ⟨fb, 80 * n, 0⟩) (4 * n) cp :: rest))) (hrl : rest.length = 3) (hf : H[fb]? = some (.row false L)) (hL : L.length = 80 * n)
    (hx : x.1 < 4 * n ∧ x.2 < 4) (hy : y.1 < 4 * n ∧ y.2 < 4) :
    Ends PR (.y l) [.agg (plC x), .agg (plC y)] H ⟨.bool true, H.set fb (.row false (joinP L x y)), [l, fb], none⟩ := by
  have l1 := hlt hl
  have l2 := hlt h1
  have l3 := hlt hb
  have l4 := hlt hf
  have n1 : l ≠ t1 := by rintro rfl; rw [hl] at h1; cases h1
  have n2 : l ≠ b := by rintro rfl; rw [hl] at hb; cases hb
  have n3 : l ≠ fb := by rintro rfl; rw [hl] at hf; cases hf
  have key : ∃ r, Ends PR (.y l) [.agg (plC x), .agg (plC y)] H r ∧ r = ⟨.bool true, H.set fb (.row false (joinP L x y)), [l, fb], none⟩ := by
    refine ends_ysome hl rfl rfl ?_
    have hj : ∀ lp P, PP P → ∀ g, Ends PR (.f 177) [.ptr (some ⟨b, 4, 0⟩), .agg [N x.1, N x.2], .agg [N y.1, N y.2], .agg P] (H.set l (.loop lp) ++ g) ⟨.tup [], (H.set l (.loop lp) ++ g).set fb (.row false (joinF L x.1 x.2 y.1 y.2 P)), [fb], none⟩ := by
      intro lp P hP g
      refine join_c (n := n) (cp := cp) (rest := rest) (hget_some ?_) hrl (hget_some ?_) hL hP hx.1 hx.2 hy.1 hy.2
      · rw [List.getElem?_set_ne n2]; exact hb
      · rw [List.getElem?_set_ne n3]; exact hf
    have hji := fun lp => hj lp idP (.inl rfl)
    have hjs := fun lp => hj lp swP (.inr rfl)
    simp only [idP, swP] at hji hjs
    have hmu : mup H.length ⟨H.length, addAll [] [l], none⟩ [fb] none (H.length + 3) = ⟨H.length, [l, fb], none⟩ := by
      simp [mup, addAll, l1, l4, adj, cut, mrg, n3.symm]
    simp [zAssign_wp, pushTmps, plC, hl, l1, l2, l3, l4, hget_old, hset_old, hget_at, hget_at0, hset_at, hset_at0, -getElem?_pos]
    by_cases hxy : x.2 = y.2
    · have hxn : ((x.2 : Int) != y.2) = false := by simp [hxy]
      simp [zBody_wp, e1, h1, hxn, l1, l2, l3, l4, n1, n2, n3, hget_old, hset_old, hget_at, hget_at0, hset_at, hset_at0, List.getElem?_set_ne, List.getElem?_set_self, ends_eq (hji _ _), lkOf, -getElem?_pos]
      refine ⟨⟨.busy, none, e, [56, 57], zAssign, zBody⟩, by rw [List.getElem?_set_ne n3.symm, List.getElem?_set_self l1], ?_⟩
      rw [hmu]
      refine ⟨_, _, gcD_take (by simp) (by intro b hb hb2; simp at hb2; omega), rfl, ?_, rfl, rfl⟩
      dsimp only
      rw [List.take_left' (by simp), set_back hl n3]
      simp only [joinP, jp, if_pos hxy]
      rfl
    · have hxn : ((x.2 : Int) != y.2) = true := by simp; omega
      simp [zBody_wp, e1, h1, hxn, l1, l2, l3, l4, n1, n2, n3, hget_old, hset_old, hget_at, hget_at0, hset_at, hset_at0, List.getElem?_set_ne, List.getElem?_set_self, ends_eq (hjs _ _), lkOf, -getElem?_pos]
      refine ⟨⟨.busy, none, e, [56, 57], zAssign, zBody⟩, by rw [List.getElem?_set_ne n3.symm, List.getElem?_set_self l1], ?_⟩
      rw [hmu]
      refine ⟨_, _, gcD_take (by simp) (by intro b hb hb2; simp at hb2; omega), rfl, ?_, rfl, rfl⟩
      dsimp only
      rw [List.take_left' (by simp), set_back hl n3]
      simp only [joinP, jp, if_neg hxy]
      rfl
  obtain ⟨r, hr, rfl⟩ := key
  exact hr

end Go.Proofs.Ytocoadpepofbbaa.AM

/-
  THE PACKAGE outside, part 6: all faces are glued.
-/
set_option linter.unusedVariables false
set_option linter.unusedSimpArgs false
set_option maxRecDepth 10000
namespace Go.Proofs.Ytocoadpepofbbaa.AM
open Go

theorem al_flat (xs : List X) (a : Nat) : (alongS xs a).flatMap plC = [N (al xs a 0).1, N (al xs a 0).2, N (al xs a 1).1, N (al xs a 1).2, N (al xs a 2).1, N (al xs a 2).2, N (al xs a 3).1, N (al xs a 3).2] := rfl
theorem Snd.al {xs : List X} (S : Snd xs) {a : Nat} (ha : a < 2 * xs.length) (i : Nat) : (AM.al xs a i).1 < 4 * xs.length ∧ (AM.al xs a i).2 < 4 := by
  have hp := mem_places.mp (S.endPl ha true).1
  have hq := mem_places.mp (S.endPl ha false).1
  have h0 : 0 < xs.length := by omega
  match i with
  | 0 => simp [AM.al, alongS]; omega
  | 1 => simp [AM.al, alongS]; omega
  | 2 => simp [AM.al, alongS]; omega
  | 3 => simp [AM.al, alongS]; omega
  | i + 4 => simp [AM.al, alongS]; omega

def pairStep (xs : List X) (L : List AV) (a : Nat) : List AV := joinP (joinP L (al xs a 0) (al xs a 1)) (al xs a 2) (al xs a 3)
def pairsF (xs : List X) (k : Nat) (L : List AV) : List AV := (List.range k).foldl (pairStep xs) L
theorem pairsF_succ (xs : List X) (k : Nat) (L : List AV) : pairsF xs (k + 1) L = pairStep xs (pairsF xs k L) k := by simp [pairsF, List.range_succ]
theorem joinP_len {L : List AV} {n : Nat} {x y : Nat × Nat} (hL : L.length = 80 * n) (hx : x.1 < 4 * n ∧ x.2 < 4) (hy : y.1 < 4 * n ∧ y.2 < 4) : (joinP L x y).length = 80 * n := by
  have hp : (jp x y).length = 4 := by unfold jp; split <;> rfl
  exact joinF_len hp hL hx.1 hx.2 hy.1 hy.2
theorem Snd.pairStep_len {xs : List X} (S : Snd xs) {a : Nat} (ha : a < 2 * xs.length) {L : List AV} (hL : L.length = 80 * xs.length) : (pairStep xs L a).length = 80 * xs.length :=
  joinP_len (joinP_len hL (S.al ha 0) (S.al ha 1)) (S.al ha 2) (S.al ha 3)
theorem Snd.pairsF_len {xs : List X} (S : Snd xs) {L : List AV} (hL : L.length = 80 * xs.length) : ∀ k, k ≤ 2 * xs.length → (pairsF xs k L).length = 80 * xs.length
  | 0, _ => hL
  | k + 1, hk => by rw [pairsF_succ]; exact S.pairStep_len (by omega) (S.pairsF_len hL k (by omega))

/-- What a run has written to older blocks: just these. -/
def WrOk (base l fb : Nat) (m : Mt) : Prop := m.lo = base ∧ m.lk = none ∧ ∀ b ∈ m.wr, b = l ∨ b = fb
theorem WrOk.mup {base l fb n : Nat} {m : Mt} (h : WrOk base l fb m) {wr : List Nat} (hw : ∀ b ∈ wr, b = l ∨ b = fb) : WrOk base l fb (mup base m wr none n) := by
  obtain ⟨h1, h2, h3⟩ := h
  refine ⟨by simp [AM.mup, adj, h1], by simp [AM.mup, h2, cut, mrg], ?_⟩
  intro b hb
  rcases mem_addAll' hb with hb | hb
  · exact h3 b hb
  · rw [List.mem_filter] at hb; exact hw b hb.1

theorem a248 {H : List ABlk} {l b fb mb t1 pb : Nat} {xs : List X} {ad : Option Ad} {c cp : Cap} {loops : Int} {L : List AV} {e0 : List AV} (B : BP H b fb mb cp xs ad c loops) (hn : xs.length ≤ 200) (S : Snd xs)
    (hl : H[l]? = some (.loop ⟨.ready, none, e0, [56, 57], zAssign, zBody⟩)) (h1 : H[t1]? = some (.row false [.ptr (some ⟨b, 4, 0⟩)])) (e1 : eget e0 1 = .ptr (some ⟨t1, 1, 0⟩))
    (hpb : H[pb]? = some (.row false [.ptr (some ⟨b, 4, 0⟩)])) (hf : H[fb]? = some (.row false L)) (hL : L.length = 80 * xs.length) (hL0 : refsL L = []) (hmf : mb ≠ fb) (haf : ∀ p, ad = some p → p.b ≠ fb) :
    ∃ r, Ends PR (.f 248) [.yld l, .ptr (some ⟨pb, 1, 0⟩)] H r ∧ r.v = .tup [] ∧ r.h = H.set fb (.row false (pairsF xs (2 * xs.length) L)) ∧ r.lk = none ∧ ∀ b ∈ r.wr, b = l ∨ b = fb := by
  have l1 := hlt hl
  have l2 := hlt h1
  have l3 := hlt B.st
  have l4 := hlt hf
  have l5 := hlt hpb
  have n1 : fb ≠ l := by rintro rfl; rw [hl] at hf; cases hf
  have n0 : ∀ {k : Nat} {v : AV}, H[k]? = some (.row false [v]) → xs.length ≠ 0 → fb ≠ k := by
    rintro k v hk h0 rfl; rw [hf] at hk; simp at hk; subst hk; simp at hL; omega
  have n2 : fb ≠ b := by
    rintro rfl
    have := B.st; rw [hf] at this; simp at this; rw [this] at hL; simp at hL; omega
  have w1 : IntKind.i64.wrap (2 * (xs.length : Int)) = (2 * xs.length : Nat) := by rw [wrap64 (by omega) (by omega)]; rfl
  have hst := B.st
  refine ends_some' p248 (by simp [c248]) ?_
  simp [c248, hpb, hst, w1, -getElem?_pos]
  refine wp_range (n := 2 * xs.length) (fun i e H' m => eget e 0 = .yld l ∧ eget e 1 = .ptr (some ⟨pb, 1, 0⟩) ∧ eget e 11 = I (2 * xs.length : Nat) ∧ WrOk H.length l fb m ∧ ∃ g, H' = H.set fb (.row false (pairsF xs i L)) ++ g) (by omega) (by simp) ?_ ?_ ?_ (by simp) ?_ ?_
  · rintro i e h m t v (rfl | rfl | rfl) hJ <;> simpa using hJ
  · rintro i e h m ⟨_, _, e11, _⟩; exact e11
  · refine ⟨by simp, by simp, by simp, ⟨rfl, rfl, by simp⟩, [], ?_⟩
    have : H.set fb (.row false L) = H := by
      apply List.ext_getElem?
      intro i
      by_cases hi : fb = i
      · subst hi; rw [List.getElem?_set_self l4, hf]
      · rw [List.getElem?_set_ne hi]
    simp [pairsF, this]
  · rintro i e _ m hi ⟨f0, f1, f11, hm, g, rfl⟩ f12
    have hlen := S.pairsF_len hL i (by omega)
    have hsucc := pairsF_succ xs i L
    obtain ⟨T, hT⟩ : ∃ T, T = pairsF xs i L := ⟨_, rfl⟩
    rw [← hT] at hlen hsucc ⊢
    have m1 := n0 h1 (by omega)
    have m2 := n0 hpb (by omega)
    have hBP : ∀ X k, BP (H.set fb X ++ k) b fb mb cp xs ad c loops := fun X k =>
      (B.upd (W := [fb]) (Upd.set (by simp)) (by simp; exact fun h => n2 h.symm) (by simpa using hmf) (by intro p hp; simpa using haf p hp)).ext
    have hal := fun X k => along_c (hBP X k) hn S hi
    simp only [al_flat] at hal
    have hyy : ∀ X k x y, X.length = 80 * xs.length → x.1 < 4 * xs.length ∧ x.2 < 4 → y.1 < 4 * xs.length ∧ y.2 < 4 → Ends PR (.y l) [.agg [N x.1, N x.2], .agg [N y.1, N y.2]] (H.set fb (.row false X) ++ k) ⟨.bool true, H.set fb (.row false (joinP X x y)) ++ k, [l, fb], none⟩ := by
      intro X k x y hX hx hy
      have := y100 (H := H.set fb (.row false X) ++ k) (x := x) (y := y) (hget_some (by rw [List.getElem?_set_ne n1]; exact hl)) (hget_some (by rw [List.getElem?_set_ne m1]; exact h1)) e1 (hBP (.row false X) k).st rfl (hget_some (List.getElem?_set_self l4)) hX hx hy
      rw [hset_old (by simpa using l4), List.set_set] at this
      exact this
    have hy1 := fun k => hyy T k _ _ hlen (S.al hi 0) (S.al hi 1)
    have hy2 := fun k => hyy _ k _ _ (joinP_len hlen (S.al hi 0) (S.al hi 1)) (S.al hi 2) (S.al hi 3)
    have hpb' : ∀ X : ABlk, (H.set fb X)[pb]? = some (.row false [.ptr (some ⟨b, 4, 0⟩)]) := fun X => by rw [List.getElem?_set_ne m2]; exact hpb
    simp [f0, f1, f11, f12, l5, hget_old, hpb', ends_eq (hal _ _), ends_eq (hy1 _), ends_eq (hy2 _), hget_at, hget_at0, hset_at, hset_at0, lkOf, hsucc, pairStep, mup_own, -getElem?_pos]
    exact (hm.mup (by simp)).mup (by simp)
  · rintro e _ m ⟨f0, f1, f11, hm, g, rfl⟩
    obtain ⟨q1, q2, q3⟩ := hm
    simp
    refine ⟨_, _, by rw [q1]; exact gcD_take rfl (by intro b hb hb2; omega), rfl, ?_, q2, q3⟩
    rw [List.take_left' (by simp)]

/-! ### the faces at a crossing -/
def cf (p : Nat) : Nat := 3 - ((p + 1) % 4) % 2
def cornStep (i : Nat) (L : List AV) (p : Nat) : List AV := joinF L (4 * i + p) (cf p) (4 * i + (p + 1) % 4) (cf p) idP
def cornF (i k : Nat) (L : List AV) : List AV := (List.range k).foldl (cornStep i) L
def cornsF (k : Nat) (L : List AV) : List AV := (List.range k).foldl (fun L i => cornF i 4 L) L
theorem cornF_succ (i k : Nat) (L : List AV) : cornF i (k + 1) L = cornStep i (cornF i k L) k := by simp [cornF, List.range_succ]
theorem cornsF_succ (k : Nat) (L : List AV) : cornsF (k + 1) L = cornF k 4 (cornsF k L) := by simp [cornsF, List.range_succ]
theorem cornF_len {n i : Nat} (hi : i < n) {L : List AV} (hL : L.length = 80 * n) : ∀ k, k ≤ 4 → (cornF i k L).length = 80 * n
  | 0, _ => hL
  | k + 1, hk => by
    rw [cornF_succ]
    exact joinF_len rfl (cornF_len hi hL k (by omega)) (by omega) (by unfold cf; omega) (by omega) (by unfold cf; omega)
theorem cornsF_len {n : Nat} {L : List AV} (hL : L.length = 80 * n) : ∀ k, k ≤ n → (cornsF k L).length = 80 * n
  | 0, _ => hL
  | k + 1, hk => by rw [cornsF_succ]; exact cornF_len (by omega) (cornsF_len hL k (by omega)) 4 (by omega)

theorem c100_l0_wp {Q : ExK} {H : List ABlk} {b fb mb i : Nat} {xs : List X} {ad : Option Ad} {c cp : Cap} {loops : Int} {L : List AV} {e : List AV} {mt : Mt} {G0 : ABlk} {g : List ABlk} {x2 x15 x16 : AV}
    (B : BP H b fb mb cp xs ad c loops) (hn : xs.length ≤ 200) (hi : i < xs.length) (l4 : fb < H.length) (hL : L.length = 80 * xs.length) (hbf : fb ≠ b) (hmf : mb ≠ fb) (haf : ∀ p, ad = some p → p.b ≠ fb)
    (e1 : eget e 1 = .ptr (some ⟨H.length, 1, 0⟩)) (e2 : eget e 2 = x2) (e3 : eget e 3 = I i) (e15 : eget e 15 = x15) (e16 : eget e 16 = x16) (e19 : eget e 19 = I 0) (hm : WrOk H.length fb fb mt)
    (hQ : ∀ e' g' m, eget e' 1 = .ptr (some ⟨H.length, 1, 0⟩) → eget e' 2 = x2 → eget e' 15 = x15 → eget e' 16 = x16 → WrOk H.length fb fb m → Q .normal e' (H.set fb (.row false (cornF i 4 L)) ++ .row false [.ptr (some ⟨b, 4, 0⟩)] :: G0 :: g') m) :
    wp PR H.length false (.loop c100_l0) e (H.set fb (.row false L) ++ .row false [.ptr (some ⟨b, 4, 0⟩)] :: G0 :: g) mt (onBlk 2 Q) := by
  refine wp_range (n := 4) (fun p e H' m => eget e 1 = .ptr (some ⟨H.length, 1, 0⟩) ∧ eget e 2 = x2 ∧ eget e 3 = I i ∧ eget e 15 = x15 ∧ eget e 16 = x16 ∧ WrOk H.length fb fb m ∧ ∃ g, H' = H.set fb (.row false (cornF i p L)) ++ .row false [.ptr (some ⟨b, 4, 0⟩)] :: G0 :: g) (by omega) (by simp) ?_ ?_ ?_ e19 ?_ ?_
  · rintro i e h m t v (rfl | rfl | rfl) hJ <;> simpa using hJ
  · rintro i e h m _; rfl
  · exact ⟨e1, e2, e3, e15, e16, hm, g, rfl⟩
  · rintro p e _ m hp ⟨e1, e2, e3, e15, e16, hm, g, rfl⟩ e19
    have hlen := cornF_len hi hL p (by omega)
    have hsucc := cornF_succ i p L
    obtain ⟨T, hT⟩ : ∃ T, T = cornF i p L := ⟨_, rfl⟩
    rw [← hT] at hlen hsucc ⊢
    have hBP : ∀ X k, BP (H.set fb X ++ k) b fb mb cp xs ad c loops := fun X k =>
      (B.upd (W := [fb]) (Upd.set (by simp)) (by simp; exact fun h => hbf h.symm) (by simpa using hmf) (by intro p hp; simpa using haf p hp)).ext
    have hst := fun X k => (hBP X k).st
    have hmp := fun X k => (hBP X k).mp
    have l3 := hlt B.st
    obtain ⟨j1, hj1⟩ := crn_look (q := (i, p)) (L := places xs.length) (i := 0) (mem_places.mpr ⟨hi, hp⟩)
    obtain ⟨j2, hj2⟩ := crn_look (q := (i, (p + 1) % 4)) (L := places xs.length) (i := 0) (mem_places.mpr ⟨hi, by simp; omega⟩)
    have hf1 := crnE_find (crn xs.length) i p
    have hf2 := crnE_find (crn xs.length) i ((p + 1) % 4)
    rw [crn, hj1] at hf1
    rw [crn, hj2] at hf2
    have htu := fun h => turned_c h i p 1 hp (by omega) ((p + 1) % 4) (by omega)
    have hmod : (((p + 1) % 4 : Nat) : Int).tmod 2 = ((p + 1) % 4 % 2 : Nat) := rfl
    have hw : IntKind.i64.wrap (3 - (((p + 1) % 4 % 2 : Nat) : Int)) = (cf p : Nat) := by rw [wrap64 (by omega) (by omega)]; unfold cf; omega
    have hjo : ∀ k, Ends PR (.f 177) [.ptr (some ⟨b, 4, 0⟩), .agg [N (4 * i + p), N (cf p)], .agg [N (4 * i + (p + 1) % 4), N (cf p)], .agg idP] (H.set fb (.row false T) ++ k) ⟨.tup [], H.set fb (.row false (cornStep i T p)) ++ k, [fb], none⟩ := by
      intro k
      have := join_c (H := H.set fb (.row false T) ++ k) (P := idP) (hst (.row false T) k) rfl (hget_some (List.getElem?_set_self l4)) hlen (.inl rfl) (t := 4 * i + p) (f := cf p) (t' := 4 * i + (p + 1) % 4) (f' := cf p) (by omega) (by unfold cf; omega) (by omega) (by unfold cf; omega)
      rw [hset_old (by simpa using l4), List.set_set] at this
      exact this
    simp only [idP] at hjo
    obtain ⟨q, hq⟩ : ∃ q, q = (p + 1) % 4 := ⟨_, rfl⟩
    rw [← hq] at hf2 htu hmod hw hjo
    obtain ⟨t0, ht0⟩ : ∃ t, t = 4 * i + p := ⟨_, rfl⟩
    obtain ⟨t1, ht1⟩ : ∃ t, t = 4 * i + q := ⟨_, rfl⟩
    have hf1' : aFind (codeD (.agg [N i, N p])) (crnE (crn xs.length)) 0 = some (j1, N t0) := by rw [ht0]; exact hf1
    have hf2' : aFind (codeD (.agg [N i, N q])) (crnE (crn xs.length)) 0 = some (j2, N t1) := by rw [ht1, hq]; rw [hq] at hf2; exact hf2
    rw [← ht0, ← ht1] at hjo
    obtain ⟨f, hf⟩ : ∃ f, f = cf p := ⟨_, rfl⟩
    rw [← hf] at hw hjo
    obtain ⟨q2, hq2⟩ : ∃ q2, q2 = q % 2 := ⟨_, rfl⟩
    rw [← hq2] at hmod hw
    clear hf1 hf2
    rw [show List.map (fun q : Pl => (q, 4 * q.1 + q.2)) (places xs.length) = crn xs.length from rfl] at *
    simp [e1, e2, e3, e15, e16, e19, hst, hmp, l3, hf1', hf2', ends_eq (htu _), hmod, hw, ends_eq (hjo _), shape_pl, hget_old, hget_at, hget_at0, hset_at, hset_at0, lkOf, mup_own, hsucc, -getElem?_pos]
    exact ⟨by simp [chkFP, apartFP], hm.mup (by simp)⟩
  · rintro e _ m ⟨e1, e2, e3, e15, e16, hm, g, rfl⟩
    exact hQ _ _ _ e1 e2 e15 e16 hm

theorem WrOk.mup' {base fb n : Nat} {m : Mt} (h : WrOk base fb fb m) {wr : List Nat} (hw : ∀ b ∈ wr, b = fb ∨ base ≤ b) : WrOk base fb fb (AM.mup base m wr none n) := by
  obtain ⟨h1, h2, h3⟩ := h
  refine ⟨by simp [AM.mup, adj, h1], by simp [AM.mup, h2, cut, mrg], ?_⟩
  intro b hb
  rcases mem_addAll' hb with hb | hb
  · exact h3 b hb
  · rw [List.mem_filter] at hb
    rcases hw b hb.1 with h | h
    · exact .inl h
    · have := hb.2; simp at this; omega

theorem pairs_c {h : List ABlk} {b : Nat} {B0 : ABlk} (hb : h[b]? = some B0) : Ends PR (.f 178) [.ptr (some ⟨b, 4, 0⟩)] h ⟨.fn 248 [.ptr (some ⟨h.length, 1, 0⟩)], h ++ [.row false [.ptr (some ⟨b, 4, 0⟩)]], [], none⟩ := by
  have hlt := hlt hb
  refine ends_of p178 (by simp [c178]) ?_
  simp [c178]
  have hn : ¬ h.length ≤ b := by omega
  have hb' : (blkRefs (h ++ [.row false [.ptr (some ⟨b, 4, 0⟩)]]) h.length).filter (h.length ≤ ·) = [] := by
    simp [blkRefs, hget_new0, hn]
  simp [gc, hb', dd, ren, renBlks, renBlk, hlt, idx]

theorem c100_l1_wp {Q : ExK} {H : List ABlk} {b fb mb : Nat} {xs : List X} {ad : Option Ad} {c cp : Cap} {loops : Int} {L : List AV} {e : List AV} {G0 : ABlk}
    (B : BP H b fb mb cp xs ad c loops) (hn : xs.length ≤ 200) (hf : H[fb]? = some (.row false L)) (hL : L.length = 80 * xs.length) (hbf : fb ≠ b) (hmf : mb ≠ fb) (haf : ∀ p, ad = some p → p.b ≠ fb)
    (e1 : eget e 1 = .ptr (some ⟨H.length, 1, 0⟩)) (e15 : eget e 15 = I xs.length) (e16 : eget e 16 = I 0)
    (hQ : ∀ e' g' m, eget e' 1 = .ptr (some ⟨H.length, 1, 0⟩) → eget e' 2 = eget e 2 → WrOk H.length fb fb m → Q .normal e' (H.set fb (.row false (cornsF xs.length L)) ++ .row false [.ptr (some ⟨b, 4, 0⟩)] :: G0 :: g') m) :
    wp PR H.length false (.loop c100_l1) e (H ++ [.row false [.ptr (some ⟨b, 4, 0⟩)], G0]) (M0 H) (onBlk 0 Q) := by
  have l4 := hlt hf
  have h0 : H = H.set fb (.row false L) := by
    apply List.ext_getElem?
    intro i
    by_cases hi : fb = i
    · subst hi; rw [List.getElem?_set_self l4, hf]
    · rw [List.getElem?_set_ne hi]
  refine wp_range (n := xs.length) (fun i e' H' m => eget e' 1 = .ptr (some ⟨H.length, 1, 0⟩) ∧ eget e' 2 = eget e 2 ∧ eget e' 15 = I xs.length ∧ WrOk H.length fb fb m ∧ ∃ g, H' = H.set fb (.row false (cornsF i L)) ++ .row false [.ptr (some ⟨b, 4, 0⟩)] :: G0 :: g) (by omega) (by simp) ?_ ?_ ?_ e16 ?_ ?_
  · rintro i e h m t v (rfl | rfl | rfl) hJ <;> simpa using hJ
  · rintro i e h m ⟨_, _, e15, _⟩; exact e15
  · refine ⟨e1, rfl, e15, ⟨rfl, rfl, by simp⟩, [], ?_⟩
    have : cornsF 0 L = L := rfl
    rw [this, ← h0]
  · rintro i e' _ m hi ⟨f1, f2, f15, hm, g, rfl⟩ f16
    have hlen := cornsF_len hL i (by omega)
    simp [f1, f2, f15, f16]
    refine c100_l0_wp (i := i) (L := cornsF i L) (x2 := eget e 2) (x15 := I xs.length) (x16 := I i) B hn hi l4 hlen hbf hmf haf ?_ ?_ ?_ ?_ ?_ ?_ hm ?_
    · simp [f1]
    · simp [f2]
    · simp
    · simp [f15]
    · simp [f16]
    · simp
    · intro e'' g' m k1 k2 k15 k16 hm'
      simp [k1, k2, k15, k16, hm', cornsF_succ]
  · rintro e' _ m ⟨f1, f2, f15, hm, g, rfl⟩
    exact hQ _ _ _ f1 f2 hm

/-- The faces of the outside. -/
def outF (xs : List X) : List AV := pairsF xs (2 * xs.length) (cornsF xs.length (List.replicate (80 * xs.length) (I 0)))

theorem joinF_refs {L P : List AV} {t f t' f' : Nat} (hL : refsL L = []) (hP : PP P) : refsL (joinF L t f t' f' P) = [] := by
  have hPr : refsL P = [] := by rcases hP with rfl | rfl <;> rfl
  have hsp : ∀ L o vs, refsL L = [] → refsL vs = [] → refsL (spl L o vs) = [] := by
    intro L o vs h1 h2
    have h3 : ∀ n, refsL (L.take n) = [] ∧ refsL (L.drop n) = [] := by
      intro n
      have := refsL_append (L.take n) (L.drop n)
      rw [List.take_append_drop, h1] at this
      exact ⟨(List.append_eq_nil_iff.mp this.symm).1, (List.append_eq_nil_iff.mp this.symm).2⟩
    simp [spl, refsL_append, h2, (h3 _).1, (h3 _).2]
  exact hsp _ _ _ (hsp _ _ _ hL (by simp [hPr])) (by simp [hPr])

theorem rg100 {H : List ABlk} {b fb mb : Nat} {xs : List X} {ad : Option Ad} {c cp : Cap} {loops : Int} {T : List AV} {E : List AV} {G0 : ABlk} {g : List ABlk} {m : Mt}
    (B : BP H b fb mb cp xs ad c loops) (hn : xs.length ≤ 200) (S : Snd xs) (l4 : fb < H.length) (hL : T.length = 80 * xs.length) (hcr : refsL T = []) (hbf : fb ≠ b) (hmf : mb ≠ fb) (haf : ∀ p, ad = some p → p.b ≠ fb) (hm : WrOk H.length fb fb m)
    (e1 : eget E 1 = .ptr (some ⟨H.length, 1, 0⟩)) {QQ : ExK}
    (hq : ∀ g' m', WrOk H.length fb fb m' → QQ .normal E (H.set fb (.row false (pairsF xs (2 * xs.length) T)) ++ .row false [.ptr (some ⟨b, 4, 0⟩)] :: G0 :: g') m') :
    ∃ r, Ends PR (.f 248) [.yld (H.length + (g.length + 1 + 1 + 1) + 1), .ptr (some ⟨H.length + (g.length + 1 + 1), 1, 0⟩)] (H.set fb (.row false T) ++ .row false [.ptr (some ⟨b, 4, 0⟩)] :: G0 :: (g ++ [.row false [.ptr (some ⟨b, 4, 0⟩)], .defr, .loop ⟨.ready, none, E, [56, 57], zAssign, zBody⟩])) r ∧
      kRg H.length E (H.set fb (.row false T) ++ .row false [.ptr (some ⟨b, 4, 0⟩)] :: G0 :: (g ++ [.row false [.ptr (some ⟨b, 4, 0⟩)]])) m QQ r := by
  have hidx : H.length + (g.length + 1 + 1 + 1) + 1 = H.length + (g.length + 1 + 1 + 1 + 1) := by omega
  obtain ⟨Hc, hHc⟩ : ∃ Hc, Hc = H.set fb (.row false T) ++ .row false [.ptr (some ⟨b, 4, 0⟩)] :: G0 :: (g ++ [.row false [.ptr (some ⟨b, 4, 0⟩)], .defr, .loop ⟨.ready, none, E, [56, 57], zAssign, zBody⟩]) := ⟨_, rfl⟩
  have hl : Hc[H.length + (g.length + 1 + 1 + 1 + 1)]? = some (.loop ⟨.ready, none, E, [56, 57], zAssign, zBody⟩) := by
    rw [hHc, hget_at (by simp)]
    simp only [gconsS]
    rw [show g.length + 1 + 1 = g.length + 2 by omega, hget_new]; rfl
  have ht1 : Hc[H.length]? = some (.row false [.ptr (some ⟨b, 4, 0⟩)]) := by rw [hHc, hget_at0 (by simp)]; rfl
  have hpb : Hc[H.length + (g.length + 1 + 1)]? = some (.row false [.ptr (some ⟨b, 4, 0⟩)]) := by
    rw [hHc, hget_at (by simp)]; simp only [gconsS, hget_new0]; rfl
  have hf : Hc[fb]? = some (.row false T) := by rw [hHc]; exact hget_some (List.getElem?_set_self l4)
  have hB : BP Hc b fb mb cp xs ad c loops := by
    rw [hHc]
    exact (B.upd (W := [fb]) (Upd.set (by simp)) (by simp; exact fun h => hbf h.symm) (by simpa using hmf) (by intro p hp; simpa using haf p hp)).ext
  obtain ⟨r, hr, hv, hh, hk, hw⟩ := a248 hB hn S hl ht1 e1 hpb hf hL hcr hmf haf
  rw [hidx, ← hHc]
  refine ⟨r, hr, ?_⟩
  have hne : fb ≠ H.length + (g.length + 1 + 1 + 1 + 1) := by omega
  have hlen : (H.set fb (.row false T) ++ .row false [.ptr (some ⟨b, 4, 0⟩)] :: G0 :: (g ++ [.row false [.ptr (some ⟨b, 4, 0⟩)]]) : List ABlk).length + 1 = H.length + (g.length + 1 + 1 + 1 + 1) := by simp; omega
  refine kRg_of (lp := ⟨.ready, none, E, [56, 57], zAssign, zBody⟩) (by rw [hlen, hh, List.getElem?_set_ne hne]; exact hl) rfl rfl ?_
  rw [hlen, hk]
  have hwo := hm.mup' (n := r.h.length) (wr := r.wr) (fun x hx => by rcases hw x hx with h | h; exact .inr (by omega); exact .inl h)
  have hfin : r.h.set (H.length + (g.length + 1 + 1 + 1 + 1)) (.loop ⟨.exhausted, none, E, [56, 57], zAssign, zBody⟩) = H.set fb (.row false (pairsF xs (2 * xs.length) T)) ++ .row false [.ptr (some ⟨b, 4, 0⟩)] :: G0 :: (g ++ [.row false [.ptr (some ⟨b, 4, 0⟩)], .defr, .loop ⟨.exhausted, none, E, [56, 57], zAssign, zBody⟩]) := by
    rw [hh, hHc, hset_old (by simpa using l4), List.set_set, hset_at (by simp)]
    simp only [List.set_cons_succ]
    rw [show g.length + 1 + 1 = g.length + 2 by omega, hset_new]; rfl
  have := hq (g ++ [.row false [.ptr (some ⟨b, 4, 0⟩)], .defr, .loop ⟨.exhausted, none, E, [56, 57], zAssign, zBody⟩]) _ hwo
  rw [← hfin] at this
  exact this

theorem build_c {H : List ABlk} {b fb mb : Nat} {xs : List X} {ad : Option Ad} {c cp : Cap} {loops : Int} {L : List AV}
    (B : BP H b fb mb cp xs ad c loops) (hn : xs.length ≤ 200) (S : Snd xs) (hf : H[fb]? = some (.row false L)) (hL : L.length = 80 * xs.length) (hbf : fb ≠ b) (hmf : mb ≠ fb) (haf : ∀ p, ad = some p → p.b ≠ fb) (hcr : refsL (cornsF xs.length L) = []) :
    ∃ r, Ends PR (.f 100) [.ptr (some ⟨b, 4, 0⟩)] H r ∧ r.v = .agg [.sl (some ⟨fb, 80 * xs.length, 0⟩) (4 * xs.length) cp] ∧ r.h = H.set fb (.row false (pairsF xs (2 * xs.length) (cornsF xs.length L))) ∧ r.lk = none ∧ ∀ b ∈ r.wr, b = fb := by
  have l4 := hlt hf
  have l3 := hlt B.st
  refine ends_some' p100 (by simp [c100]) ?_
  have hst := B.st
  have hst' := fun l => hget_some (l := l) hst
  simp [c100, hst, hst', -getElem?_pos]
  refine c100_l1_wp (L := L) B hn hf hL hbf hmf haf rfl rfl rfl ?_
  intro e g m f1 f2 hm
  obtain ⟨T, hT⟩ : ∃ T, T = cornsF xs.length L := ⟨_, rfl⟩
  have hTl : T.length = 80 * xs.length := by rw [hT]; exact cornsF_len hL _ (Nat.le_refl _)
  rw [← hT]
  rw [← hT] at hcr
  have hbx : ∀ X k, (H.set fb X ++ k)[b]? = H[b]? := fun X k => by rw [hget_old (by simpa using l3), List.getElem?_set_ne hbf]
  have hpc := fun X k => pairs_c (h := H.set fb X ++ k) (b := b) (by rw [hbx]; exact hst)
  simp [f1, f2, ends_eq (hpc _ _), hget_at, hget_at0, -getElem?_pos]
  refine rg100 (G0 := .row false [.sl none 0 (.k 0)]) B hn S l4 hTl hcr hbf hmf haf hm ?_ ?_
  · simp [f1]
  · intro g' m' hm'
    obtain ⟨q1, q2, q3⟩ := hm'
    have hst2 : ∀ X k, (H.set fb X ++ k)[b]? = some (.row false [.sl (some ⟨fb, 80 * xs.length, 0⟩) (4 * xs.length) cp, .sl ad xs.length c, I loops, .map (some mb)]) := fun X k => by rw [hbx]; exact hst
    have hlk : lkOf (H.length + 1) [AV.sl (some ⟨fb, 80 * xs.length, 0⟩) (4 * xs.length) cp] = none := by
      have : ¬ (H.length + 1 < fb) := by omega
      simp [lkOf, this]
    simp [f1, f2, hst2, l3, hget_old, hget_at, hget_at0, hset_at, hset_at0, hlk, mup_own, -getElem?_pos]
    have hgc := gc_old (h := H.set fb (.row false (pairsF xs (2 * xs.length) T))) (l := .row false [.ptr (some ⟨b, 4, 0⟩)] :: .row false [.sl (some ⟨fb, 80 * xs.length, 0⟩) (4 * xs.length) cp] :: g') (v := .agg [.sl (some ⟨fb, 80 * xs.length, 0⟩) (4 * xs.length) cp]) (by simp [l4])
    rw [List.length_set] at hgc
    refine ⟨_, _, by rw [q1, gcD_base]; exact hgc, rfl, rfl, q2, fun b hb => (q3 b hb).elim id id⟩

end Go.Proofs.Ytocoadpepofbbaa.AM

/-
  THE PACKAGE outside, part 7: Outside and Arc.
-/
set_option linter.unusedVariables false
set_option linter.unusedSimpArgs false
set_option maxRecDepth 10000
namespace Go.Proofs.Ytocoadpepofbbaa.AM
open Go

theorem cornF_refs {i : Nat} {L : List AV} (hL : refsL L = []) : ∀ k, refsL (cornF i k L) = []
  | 0 => hL
  | k + 1 => by rw [cornF_succ]; exact joinF_refs (cornF_refs hL k) (.inl rfl)
theorem cornsF_refs {L : List AV} (hL : refsL L = []) : ∀ k, refsL (cornsF k L) = []
  | 0 => hL
  | k + 1 => by rw [cornsF_succ]; exact cornF_refs (cornsF_refs hL k) 4
theorem pairsF_refs {xs : List X} {L : List AV} (hL : refsL L = []) : ∀ k, refsL (pairsF xs k L) = []
  | 0 => hL
  | k + 1 => by rw [pairsF_succ]; exact joinF_refs (joinF_refs (pairsF_refs hL k) (jp_PP _ _)) (jp_PP _ _)
theorem zeros_refs (n : Nat) : refsL (List.replicate n (I 0)) = [] := by
  have := refsL_ints (L := List.replicate n 0)
  simpa using this
theorem outF_refs (xs : List X) : refsL (outF xs) = [] := pairsF_refs (cornsF_refs (zeros_refs _) _) _
theorem outF_len {xs : List X} (S : Snd xs) : (outF xs).length = 80 * xs.length := S.pairsF_len (cornsF_len (by simp) _ (Nat.le_refl _)) _ (Nat.le_refl _)

theorem asked_zero {xs : List X} {loops : Int} (h : askedS xs loops = 0) : enterS xs loops = 0 ∧ mixedS xs loops = true ∧ xs.length ≠ 0 ∧ loops = 0 := by
  unfold askedS at h
  split at h
  · rename_i h0
    split at h
    · rename_i hm
      refine ⟨h0, hm, ?_, ?_⟩
      · intro hz; simp [mixedS, hz] at hm
      · have := (enterS_zero h0).2.2.1
        by_cases hl : 0 < loops
        · simp [mixedS, hl] at hm
        · omega
    · omega
  · rename_i h0; exact (h0 h).elim

/-- The heap and the value of a glued builder. -/
theorem glued_c {h : List ABlk} {a : Option Ad} {c : Cap} {xs : List X} {loops : Int} (hA : SlAt h a xs.length 5 (xs.flatMap X.cells)) (ha : ∀ p, a = some p → p.b < h.length) (hn : xs.length ≤ 200) (S : Snd xs) :
    ∃ w, (∀ b ∈ w, b = h.length + 1) ∧ Ends PR (.f 100) [.ptr (some ⟨h.length, 4, 0⟩)] (h ++ bldBlocks h a c xs loops)
      ⟨.agg [.sl (some ⟨h.length + 1, 80 * xs.length, 0⟩) (4 * xs.length) (.u 20)],
        h ++ [.row false [.sl (some ⟨h.length + 1, 80 * xs.length, 0⟩) (4 * xs.length) (.u 20), .sl a xs.length c, I loops, .map (some (h.length + 2))], .row false (outF xs), .map true kIA (crnE (crn xs.length))], w, none⟩ := by
  obtain ⟨r, hr, hv, hh, hk, hw⟩ := build_c (bld_BP (c := c) (loops := loops) hA ha) hn S (L := List.replicate (80 * xs.length) (I 0)) (by rw [hget_new]; rfl) (by simp) (by omega) (by omega) (fun p hp => by have := ha p hp; omega) (cornsF_refs (zeros_refs _) _)
  refine ⟨r.wr, hw, ?_⟩
  obtain ⟨v, hp, w, k⟩ := r
  dsimp only at hv hh hk hw
  subst hv hk hh
  rw [hset_new] at hr
  exact hr

theorem Outside_c {h : List ABlk} {v : AV} {xs : List X} {loops : Int} (H : DiaIn h v xs loops) : Ends PR (.f 22) [v] h
    (if askedS xs loops = 0 then ⟨.tup [.agg [.sl (some ⟨h.length, 80 * xs.length, 0⟩) (4 * xs.length) (.u 20)], I 0], h ++ [.row false (outF xs)], [], none⟩ else ⟨.tup [.agg [nilSl], I (askedS xs loops)], h, [], none⟩) := by
  have hask := fun l => asked_c (H.ext (l := l))
  obtain ⟨a, c, rfl, hA, ha⟩ := H
  refine ends_of p22 (by simp [c22]) ?_
  by_cases h0 : askedS xs loops = 0
  · obtain ⟨k1, k2, k3, k4⟩ := asked_zero h0
    obtain ⟨g0, g1, g2, g3, S⟩ := enterS_zero k1
    have hlt' : ∀ l : List ABlk, ∀ p, a = some p → p.b < (h ++ l).length := fun l p hp => by have := ha p hp; simp; omega
    have hbo := fun l => builderOf_c (c := c) (loops := loops) (hlt' l) g1 k3
    obtain ⟨w, hw, hgl⟩ := glued_c (h := h ++ [.row false [.sl a xs.length c, I loops], .row false [.sl none 0 (.k 0)]]) (c := c) (loops := loops) hA.ext (hlt' _) g1 S
    have hmu : ∀ n, mup h.length ⟨h.length, [], none⟩ w none n = ⟨h.length, [], none⟩ := fun n => mup_ge (by simp) (fun b hb => by rw [hw b hb]; simp; omega) (by simp)
    have hbd : ∀ h : List ABlk, bldBlocks h a c xs loops = [.row false [.sl (some ⟨h.length + 1, 80 * xs.length, 0⟩) (4 * xs.length) (.u 20), .sl a xs.length c, I loops, .map (some (h.length + 2))], .row false (List.replicate (80 * xs.length) (I 0)), .map true kIA (crnE (crn xs.length))] := fun h => rfl
    simp only [hbd, List.append_assoc, List.cons_append, List.nil_append, List.length_append, List.length_cons, List.length_nil] at hgl
    simp [c22, ends_eq (hask _), h0, ends_eq (hbo _), hbd, ends_eq hgl, hmu]
    rw [show h.length + 2 + 1 = h.length + 3 from rfl]
    refine gc_row (j := 3) (ro := false) ?_ rfl (outF_refs xs) ?_ <;> simp
  · simp [c22, ends_eq (hask _), h0, gc_none, nilSl]

theorem Arc_c {h : List ABlk} {v : AV} {xs : List X} {loops arc : Int} (H : DiaIn h v xs loops) : Ends PR (.f 30) [v, I arc] h
    (if askedS xs loops = 0 then (if arc < 0 ∨ 2 * (xs.length : Int) ≤ arc then ⟨.tup [nilSl, I 1], h, [], none⟩ else ⟨.tup [.sl (some ⟨h.length, 8, 0⟩) 4 (.k 4), I 0], h ++ [.row false ((alongS xs arc.toNat).flatMap plC)], [], none⟩) else ⟨.tup [nilSl, I (askedS xs loops)], h, [], none⟩) := by
  have hask := fun l => asked_c (H.ext (l := l))
  obtain ⟨a, c, rfl, hA, ha⟩ := H
  refine ends_of p30 (by simp [c30]) ?_
  by_cases h0 : askedS xs loops = 0
  · obtain ⟨k1, k2, k3, k4⟩ := asked_zero h0
    obtain ⟨g0, g1, g2, g3, S⟩ := enterS_zero k1
    have w1 : IntKind.i64.wrap (2 * (xs.length : Int)) = 2 * xs.length := wrap64 (by omega) (by omega)
    by_cases a1 : arc < 0
    · simp [c30, ends_eq (hask _), h0, a1, gc_none, nilSl]
    · by_cases a2 : 2 * (xs.length : Int) ≤ arc
      · simp [c30, ends_eq (hask _), h0, a1, a2, w1, gc_none, nilSl]
      · obtain ⟨n, rfl⟩ : ∃ n : Nat, arc = n := ⟨arc.toNat, by omega⟩
        have hlt' : ∀ l : List ABlk, ∀ p, a = some p → p.b < (h ++ l).length := fun l p hp => by have := ha p hp; simp; omega
        have hbo := fun l => builderOf_c (c := c) (loops := loops) (hlt' l) g1 k3
        have hal := fun l => along_c (bld_BP (h := h ++ l) (c := c) (loops := loops) hA.ext (hlt' l)) g1 S (a := n) (by omega)
        have hbd : ∀ h : List ABlk, bldBlocks h a c xs loops = [.row false [.sl (some ⟨h.length + 1, 80 * xs.length, 0⟩) (4 * xs.length) (.u 20), .sl a xs.length c, I loops, .map (some (h.length + 2))], .row false (List.replicate (80 * xs.length) (I 0)), .map true kIA (crnE (crn xs.length))] := fun h => rfl
        have hal1 := hal [.row false [.sl a xs.length c, I loops]]
        simp only [al_flat, hbd, List.append_assoc, List.cons_append, List.nil_append, List.length_append, List.length_cons, List.length_nil] at hal1
        have a2' : ¬ (2 * xs.length ≤ n) := by omega
        simp [c30, ends_eq (hask _), h0, a1, a2, a2', w1, ends_eq (hbo _), hbd, ends_eq hal1, al_flat]
        refine gc_row (j := 4) (ro := false) ?_ rfl ?_ ?_ <;> simp
  · simp [c30, ends_eq (hask _), h0, gc_none, nilSl]

end Go.Proofs.Ytocoadpepofbbaa.AM

/-
  TEMPORARIES THAT ARE KEPT.
-/
set_option linter.unusedVariables false
set_option linter.unusedSimpArgs false
namespace Go.Proofs.Ytocoadpepofbbaa.AM
open Go

/-- Some temporaries are as in another list. -/
def KeepT (ks : List Nat) (e0 e : List AV) : Prop := ∀ i ∈ ks, eget e i = eget e0 i
theorem KeepT.refl (ks : List Nat) (e : List AV) : KeepT ks e e := fun _ _ => rfl
@[simp] theorem KeepT_refl (ks : List Nat) (e : List AV) : KeepT ks e e = True := by simp [KeepT]
@[simp] theorem KeepT_eset {ks : List Nat} {e0 e : List AV} {t : Nat} {v : AV} (ht : t ∉ ks) : KeepT ks e0 (eset e t v) = KeepT ks e0 e := by
  simp only [KeepT]
  refine propext ⟨fun h i hi => ?_, fun h i hi => ?_⟩
  · rw [← h i hi, eget_ne]; rintro rfl; exact ht hi
  · rw [eget_ne, h i hi]; rintro rfl; exact ht hi
theorem KeepT.trans {ks : List Nat} {a b c : List AV} (h : KeepT ks a b) (k : KeepT ks b c) : KeepT ks a c := fun i hi => (k i hi).trans (h i hi)
theorem KeepT.sub {ks ks' : List Nat} {a b : List AV} (h : KeepT ks a b) (hs : ∀ i ∈ ks', i ∈ ks) : KeepT ks' a b := fun i hi => h i (hs i hi)

end Go.Proofs.Ytocoadpepofbbaa.AM

/-
  THE PACKAGE outside, part 8: the faces as a list of entries.
-/
set_option linter.unusedVariables false
set_option linter.unusedSimpArgs false
set_option maxRecDepth 10000
namespace Go.Proofs.Ytocoadpepofbbaa.AM
open Go

/-- A face: the tetrahedron, and the permutation. -/
structure F where
  t : Nat
  p0 : Nat
  p1 : Nat
  p2 : Nat
  p3 : Nat
  deriving DecidableEq, Inhabited
def F.cells (x : F) : List AV := [N x.t, N x.p0, N x.p1, N x.p2, N x.p3]
@[simp] theorem F.cells_length (x : F) : x.cells.length = 5 := (rfl)
def F.p (x : F) : Nat → Nat
  | 0 => x.p0
  | 1 => x.p1
  | 2 => x.p2
  | _ => x.p3
def F.ok (n : Nat) (x : F) : Prop := x.t < 4 * n ∧ x.p0 < 4 ∧ x.p1 < 4 ∧ x.p2 < 4 ∧ x.p3 < 4
def AllOk (n : Nat) (G : List F) : Prop := G.length = 16 * n ∧ ∀ x ∈ G, x.ok n
def fid (t : Nat) : F := ⟨t, 0, 1, 2, 3⟩
def fsw (t : Nat) : F := ⟨t, 1, 0, 2, 3⟩

theorem spl_set {G : List F} {k : Nat} {x : F} (hk : k < G.length) : spl (G.flatMap F.cells) (k * 5) x.cells = (G.set k x).flatMap F.cells := by
  have h1 : G = G.take k ++ (G[k] :: G.drop (k + 1)) := by
    rw [← List.drop_eq_getElem_cons hk, List.take_append_drop]
  have hl : ((G.take k).flatMap F.cells).length = k * 5 := by rw [flatMap_len F.cells 5 (fun _ => rfl)]; simp; omega
  have h2 : G.set k x = G.take k ++ (x :: G.drop (k + 1)) := by
    rw [List.set_eq_take_append_cons_drop, if_pos hk]
  have h3 : G.flatMap F.cells = (G.take k).flatMap F.cells ++ (G[k].cells ++ (G.drop (k + 1)).flatMap F.cells) := by
    have := congrArg (List.flatMap F.cells) h1
    rw [List.flatMap_append, List.flatMap_cons] at this
    exact this
  rw [h2, h3, spl]
  rw [List.take_left' hl, List.drop_append, List.drop_of_length_le (by rw [hl]; simp), hl]
  simp only [List.nil_append, List.flatMap_append, List.flatMap_cons]
  congr 2
  rw [show k * 5 + x.cells.length - k * 5 = (G[k]).cells.length by simp, List.drop_left]

/-- The glueing of two faces. -/
def joinG (G : List F) (t f t' f' : Nat) (e : Nat → F) : List F := (G.set (4 * t + f) (e t')).set (4 * t' + f') (e t)
theorem joinF_G {G : List F} {n t f t' f' : Nat} {P : List AV} {e : Nat → F} (he : ∀ k, (e k).cells = N k :: P) (hG : G.length = 16 * n) (h1 : t < 4 * n) (h2 : f < 4) (h3 : t' < 4 * n) (h4 : f' < 4) :
    joinF (G.flatMap F.cells) t f t' f' P = (joinG G t f t' f' e).flatMap F.cells := by
  rw [joinF, ← he, ← he, show t * 20 + f * 5 = (4 * t + f) * 5 by omega, show t' * 20 + f' * 5 = (4 * t' + f') * 5 by omega, spl_set (by omega), spl_set (by simp; omega)]
  rfl
theorem AllOk.join {n t f t' f' : Nat} {G : List F} {e : Nat → F} (h : AllOk n G) (he : ∀ k, k < 4 * n → (e k).ok n) (h1 : t < 4 * n) (h3 : t' < 4 * n) : AllOk n (joinG G t f t' f' e) := by
  refine ⟨by simpa [joinG] using h.1, fun x hx => ?_⟩
  rcases mem_set' hx with rfl | hx
  · exact he _ h1
  · rcases mem_set' hx with rfl | hx
    · exact he _ h3
    · exact h.2 x hx
theorem fid_ok {n k : Nat} (h : k < 4 * n) : (fid k).ok n := ⟨h, by simp [fid], by simp [fid], by simp [fid], by simp [fid]⟩
theorem fsw_ok {n k : Nat} (h : k < 4 * n) : (fsw k).ok n := ⟨h, by simp [fsw], by simp [fsw], by simp [fsw], by simp [fsw]⟩

def jf (x y : Nat × Nat) : Nat → F := if x.2 = y.2 then fid else fsw
def joinPG (G : List F) (x y : Nat × Nat) : List F := joinG G x.1 x.2 y.1 y.2 (jf x y)
theorem joinP_G {G : List F} {n : Nat} {x y : Nat × Nat} (hG : G.length = 16 * n) (hx : x.1 < 4 * n ∧ x.2 < 4) (hy : y.1 < 4 * n ∧ y.2 < 4) : joinP (G.flatMap F.cells) x y = (joinPG G x y).flatMap F.cells := by
  refine joinF_G (n := n) (fun k => ?_) hG hx.1 hx.2 hy.1 hy.2
  unfold jf jp
  split <;> rfl
theorem AllOk.joinP {n : Nat} {G : List F} {x y : Nat × Nat} (h : AllOk n G) (hx : x.1 < 4 * n) (hy : y.1 < 4 * n) : AllOk n (joinPG G x y) := by
  refine h.join (fun k hk => ?_) hx hy
  unfold jf
  split
  · exact fid_ok hk
  · exact fsw_ok hk

def pairStepG (xs : List X) (G : List F) (a : Nat) : List F := joinPG (joinPG G (al xs a 0) (al xs a 1)) (al xs a 2) (al xs a 3)
def pairsG (xs : List X) (k : Nat) (G : List F) : List F := (List.range k).foldl (pairStepG xs) G
theorem pairsG_succ (xs : List X) (k : Nat) (G : List F) : pairsG xs (k + 1) G = pairStepG xs (pairsG xs k G) k := by simp [pairsG, List.range_succ]
theorem Snd.pairsG {xs : List X} (S : Snd xs) {G : List F} (hG : AllOk xs.length G) : ∀ k, k ≤ 2 * xs.length → AllOk xs.length (AM.pairsG xs k G) ∧ pairsF xs k (G.flatMap F.cells) = (AM.pairsG xs k G).flatMap F.cells
  | 0, _ => ⟨hG, rfl⟩
  | k + 1, hk => by
    obtain ⟨h1, h2⟩ := S.pairsG hG k (by omega)
    have a0 := S.al (a := k) (by omega) 0
    have a1 := S.al (a := k) (by omega) 1
    have a2 := S.al (a := k) (by omega) 2
    have a3 := S.al (a := k) (by omega) 3
    have h3 := h1.joinP a0.1 a1.1
    rw [pairsG_succ, pairsF_succ, h2, pairStep, pairStepG]
    refine ⟨h3.joinP a2.1 a3.1, ?_⟩
    rw [joinP_G h1.1 a0 a1, joinP_G h3.1 a2 a3]
def cornStepG (i : Nat) (G : List F) (p : Nat) : List F := joinG G (4 * i + p) (cf p) (4 * i + (p + 1) % 4) (cf p) fid
def cornG (i k : Nat) (G : List F) : List F := (List.range k).foldl (cornStepG i) G
def cornsG (k : Nat) (G : List F) : List F := (List.range k).foldl (fun G i => cornG i 4 G) G
theorem cornG_succ (i k : Nat) (G : List F) : cornG i (k + 1) G = cornStepG i (cornG i k G) k := by simp [cornG, List.range_succ]
theorem cornsG_succ (k : Nat) (G : List F) : cornsG (k + 1) G = cornG k 4 (cornsG k G) := by simp [cornsG, List.range_succ]
theorem cornG_eq {n i : Nat} (hi : i < n) {G : List F} (hG : AllOk n G) : ∀ k, k ≤ 4 → AllOk n (cornG i k G) ∧ cornF i k (G.flatMap F.cells) = (cornG i k G).flatMap F.cells
  | 0, _ => ⟨hG, rfl⟩
  | k + 1, hk => by
    obtain ⟨h1, h2⟩ := cornG_eq hi hG k (by omega)
    rw [cornG_succ, cornF_succ, h2, cornStep, cornStepG]
    refine ⟨h1.join (fun k hk => fid_ok hk) (by omega) (by omega), joinF_G (n := n) (fun k => rfl) h1.1 (by omega) (by unfold cf; omega) (by omega) (by unfold cf; omega)⟩
theorem cornsG_eq {n : Nat} {G : List F} (hG : AllOk n G) : ∀ k, k ≤ n → AllOk n (cornsG k G) ∧ cornsF k (G.flatMap F.cells) = (cornsG k G).flatMap F.cells
  | 0, _ => ⟨hG, rfl⟩
  | k + 1, hk => by
    obtain ⟨h1, h2⟩ := cornsG_eq hG k (by omega)
    rw [cornsG_succ, cornsF_succ, h2]
    exact cornG_eq (by omega) h1 4 (by omega)
/-- The faces of the outside. -/
def outG (xs : List X) : List F := pairsG xs (2 * xs.length) (cornsG xs.length (List.replicate (16 * xs.length) ⟨0, 0, 0, 0, 0⟩))
theorem Snd.outG {xs : List X} (S : Snd xs) : AllOk xs.length (AM.outG xs) ∧ outF xs = (AM.outG xs).flatMap F.cells := by
  have h0 : AllOk xs.length (List.replicate (16 * xs.length) ⟨0, 0, 0, 0, 0⟩) := by
    refine ⟨by simp, fun x hx => ?_⟩
    have := List.mem_replicate.mp hx
    rw [this.2]
    have hpos : 0 < xs.length := by have := this.1; omega
    exact ⟨by simp; omega, by simp, by simp, by simp, by simp⟩
  have hz : ∀ m, List.replicate (5 * m) (I 0) = (List.replicate m (⟨0, 0, 0, 0, 0⟩ : F)).flatMap F.cells := by
    intro m
    induction m with
    | zero => rfl
    | succ m ih =>
      rw [show 5 * (m + 1) = 5 + 5 * m by omega, ← List.replicate_append_replicate, ih]
      have e2 : List.replicate (m + 1) (⟨0, 0, 0, 0, 0⟩ : F) = ⟨0, 0, 0, 0, 0⟩ :: List.replicate m ⟨0, 0, 0, 0, 0⟩ := List.replicate_succ
      rw [e2, List.flatMap_cons]; rfl
  obtain ⟨h1, h2⟩ := cornsG_eq h0 xs.length (Nat.le_refl _)
  obtain ⟨h3, h4⟩ := S.pairsG h1 (2 * xs.length) (Nat.le_refl _)
  refine ⟨h3, ?_⟩
  rw [outF, show 80 * xs.length = 5 * (16 * xs.length) by omega, hz, h2, h4]
  rfl

end Go.Proofs.Ytocoadpepofbbaa.AM
