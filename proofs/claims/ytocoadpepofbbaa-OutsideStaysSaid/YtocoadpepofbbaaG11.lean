/-
  ENDS OF FUNCTIONS: results, compaction of the heap; slices of flat cells.
-/
import Derived.Test.YtocoadpepofbbaaG10
set_option linter.unusedVariables false
set_option linter.unusedSimpArgs false
namespace Go.Proofs.Ytocoadpepofbbaa.AM
open Go
variable {pr : FuncId → Option AFunc}

/-! ### values without new references stay -/
@[simp] theorem refs_int (k : IntKind) (n : Int) : refs (.int k n) = [] := (rfl)
@[simp] theorem refs_bool (b : Bool) : refs (.bool b) = [] := (rfl)
@[simp] theorem refs_str (b : ByteArray) : refs (.str b) = [] := (rfl)
@[simp] theorem refs_ptrN : refs (.ptr none) = [] := (rfl)
@[simp] theorem refs_ptr (a : Ad) : refs (.ptr (some a)) = [a.b] := (rfl)
@[simp] theorem refs_slN (n : Nat) (c : Cap) : refs (.sl none n c) = [] := (rfl)
@[simp] theorem refs_sl (a : Ad) (n : Nat) (c : Cap) : refs (.sl (some a) n c) = [a.b] := (rfl)
@[simp] theorem refs_mapN : refs (.map none) = [] := (rfl)
@[simp] theorem refs_map (a : Nat) : refs (.map (some a)) = [a] := (rfl)
@[simp] theorem refs_agg (cs : List AV) : refs (.agg cs) = refsL cs := by simp [refs]
@[simp] theorem refs_tup (cs : List AV) : refs (.tup cs) = refsL cs := by simp [refs]
@[simp] theorem refs_fn (f : FuncId) (cs : List AV) : refs (.fn f cs) = refsL cs := by simp [refs]
@[simp] theorem refs_yld (l : Nat) : refs (.yld l) = [l] := (rfl)
@[simp] theorem refs_nilFn : refs .nilFn = [] := (rfl)
@[simp] theorem refsL_nil' : refsL [] = [] := (rfl)
@[simp] theorem refsL_cons (v : AV) (vs : List AV) : refsL (v :: vs) = refs v ++ refsL vs := by simp [refsL]
theorem refsL_flat {α : Type} {f : α → List AV} (hf : ∀ x, refsL (f x) = []) : ∀ l : List α, refsL (l.flatMap f) = []
  | [] => rfl
  | x :: l => by simp [List.flatMap_cons, refsL_append, hf, refsL_flat hf l]
@[simp] theorem ren_int (ρ : Nat → Option Nat) (k : IntKind) (n : Int) : ren ρ (.int k n) = some (.int k n) := (rfl)
@[simp] theorem ren_bool (ρ : Nat → Option Nat) (b : Bool) : ren ρ (.bool b) = some (.bool b) := (rfl)
@[simp] theorem ren_slN (ρ : Nat → Option Nat) (n : Nat) (c : Cap) : ren ρ (.sl none n c) = some (.sl none n c) := (rfl)
@[simp] theorem ren_sl (ρ : Nat → Option Nat) (a : Ad) (n : Nat) (c : Cap) : ren ρ (.sl (some a) n c) = (ρ a.b).map fun b => .sl (some { a with b }) n c := by
  simp only [ren]; cases ρ a.b <;> rfl
@[simp] theorem ren_ptrN (ρ : Nat → Option Nat) : ren ρ (.ptr none) = some (.ptr none) := (rfl)
@[simp] theorem ren_ptr (ρ : Nat → Option Nat) (a : Ad) : ren ρ (.ptr (some a)) = (ρ a.b).map fun b => .ptr (some { a with b }) := by
  simp only [ren]; cases ρ a.b <;> rfl
@[simp] theorem ren_map (ρ : Nat → Option Nat) (a : Nat) : ren ρ (.map (some a)) = (ρ a).map fun b => .map (some b) := by
  simp only [ren]; cases ρ a <;> rfl
@[simp] theorem ren_tup (ρ : Nat → Option Nat) (cs : List AV) : ren ρ (.tup cs) = (renL ρ cs).map .tup := by
  simp only [ren]; cases renL ρ cs <;> rfl
@[simp] theorem ren_agg (ρ : Nat → Option Nat) (cs : List AV) : ren ρ (.agg cs) = (renL ρ cs).map .agg := by
  simp only [ren]; cases renL ρ cs <;> rfl
@[simp] theorem renL_nil (ρ : Nat → Option Nat) : renL ρ [] = some [] := (rfl)
@[simp] theorem renL_cons (ρ : Nat → Option Nat) (v : AV) (vs : List AV) : renL ρ (v :: vs) = (ren ρ v).bind fun v => (renL ρ vs).map (v :: ·) := by
  simp only [renL]; cases ren ρ v <;> cases renL ρ vs <;> rfl

mutual
theorem ren_same {ρ : Nat → Option Nat} : ∀ (v : AV), (∀ b ∈ refs v, ρ b = some b) → ren ρ v = some v
  | .int .., _ => rfl
  | .bool .., _ => rfl
  | .str .., _ => rfl
  | .ptr none, _ => rfl
  | .ptr (some a), h => by simp [ren, h a.b (by simp [refs])]
  | .sl none .., _ => rfl
  | .sl (some a) .., h => by simp [ren, h a.b (by simp [refs])]
  | .map none, _ => rfl
  | .map (some r), h => by simp [ren, h r (by simp [refs])]
  | .fn f cs, h => by simp [ren, renL_same cs (by simpa [refs] using h)]
  | .yld l, h => by simp [ren, h l (by simp [refs])]
  | .nilFn, _ => rfl
  | .agg cs, h => by simp [ren, renL_same cs (by simpa [refs] using h)]
  | .tup cs, h => by simp [ren, renL_same cs (by simpa [refs] using h)]
theorem renL_same {ρ : Nat → Option Nat} : ∀ (vs : List AV), (∀ b ∈ refsL vs, ρ b = some b) → renL ρ vs = some vs
  | [], _ => rfl
  | v :: vs, h => by
    simp only [refsL, List.mem_append] at h
    simp [renL, ren_same v (fun b hb => h b (.inl hb)), renL_same vs (fun b hb => h b (.inr hb))]
end

@[simp] theorem okDefr_base (b : Nat) (h : List ABlk) : okDefr b b h = true := by simp [okDefr]
@[simp] theorem gcD_base (b : Nat) (v : AV) (h : List ABlk) : gcD b b v h = gc b v h := by simp [gcD]

theorem filter_none {base : Nat} {l : List Nat} (h : ∀ b ∈ l, b < base) : l.filter (base ≤ ·) = [] := by
  rw [List.filter_eq_nil_iff]; intro b hb; have := h b hb; simp; omega

/-- No new block is reached: only the old heap stays. -/
theorem gc_old {h l : List ABlk} {v : AV} (hv : ∀ b ∈ refs v, b < h.length) : gc h.length v (h ++ l) = some (v, h) := by
  have e0 := filter_none hv
  simp only [gc, e0, List.flatMap_nil, List.filter_nil, List.append_nil, dd, renBlks]
  rw [ren_same v (fun b hb => by simp [hv b hb])]
  simp
theorem gc_none {h l : List ABlk} {v : AV} (hv : refs v = []) : gc h.length v (h ++ l) = some (v, h) := gc_old (by simp [hv])

/-- One new row is reached, and it holds no new references. -/
theorem gc_row {h l : List ABlk} {v v' : AV} {j : Nat} {ro : Bool} {cs : List AV} (hr : (refs v).filter (h.length ≤ ·) = [h.length + j]) (hl : l[j]? = some (.row ro cs)) (hc : refsL cs = [])
    (hv : ren (fun b => if b < h.length then some b else if b = h.length + j then some h.length else none) v = some v') : gc h.length v (h ++ l) = some (v', h ++ [.row ro cs]) := by
  have hb : blkRefs (h ++ l) (h.length + j) = [] := by simp [blkRefs, hl, hc]
  have e1 : (fun b => if b < h.length then some b else idx h.length [h.length + j] b) = (fun b => if b < h.length then some b else if b = h.length + j then some h.length else none) := by
    funext b
    simp only [idx]
    by_cases hb : h.length + j = b
    · simp [hb]
    · have : ¬ b = h.length + j := fun h => hb h.symm
      simp [hb, this]
  simp only [gc, hr, List.flatMap_cons, List.flatMap_nil, hb, List.append_nil, List.filter_nil, dd]
  rw [if_neg (by simp)]
  simp only [List.nil_append, dd, e1, hv, renBlks, hget_new, hl]
  simp [renBlk, renL_same cs (by simp [hc])]

/-! ### what a function returns -/
def kGc (base : Nat) (r : Ret) (m : Mt) (h : List ABlk) (vs : Option (List AV)) : Prop :=
  match vs with
  | some vs => ∃ v h'', gcD base m.lo (tupOf vs) h = some (v, h'') ∧ r = ⟨v, h'', m.wr, m.lk⟩
  | none => False
def retQ (res : List ARes) (base : Nat) (r : Ret) : ExK := fun x e h m => (match x with | .exit _ => False | _ => True) ∧ kGc base r m h (aResL ⟨e, h, 0, [], none⟩ res)
theorem ends_of {f : FuncId} {af : AFunc} {args : List AV} {h : List ABlk} {r : Ret} (hp : pr f = some af) (hl : args.length ≤ af.ntmps)
    (hw : wp pr h.length false af.body args h ⟨h.length, [], none⟩ (retQ af.res h.length r)) : Ends pr (.f f) args h r := by
  refine ends_of_wp hp hl (wp_mono _ ?_ hw)
  intro x e h' m hq
  refine ⟨hq.1, ?_⟩
  have := hq.2
  unfold kGc at this
  split at this
  · obtain ⟨v, h'', h1, h2⟩ := this; exact ⟨_, v, h'', ‹_›, h1, h2⟩
  · exact this.elim
section
variable {e : List AV} {h : List ABlk} {m : Mt} {base : Nat} {r : Ret}
@[simp] theorem retQ_ret (res : List ARes) : retQ res base r .ret e h m = kGc base r m h (aResL ⟨e, h, 0, [], none⟩ res) := by simp [retQ]
@[simp] theorem retQ_normal (res : List ARes) : retQ res base r .normal e h m = kGc base r m h (aResL ⟨e, h, 0, [], none⟩ res) := by simp [retQ]
@[simp] theorem kGc_some (vs : List AV) : kGc base r m h (some vs) = ∃ v h'', gcD base m.lo (tupOf vs) h = some (v, h'') ∧ r = ⟨v, h'', m.wr, m.lk⟩ := (rfl)
@[simp] theorem aResL_nil (s : St) : aResL s [] = some [] := (rfl)
@[simp] theorem aResL_cons (s : St) (a : ARes) (as : List ARes) : aResL s (a :: as) = (aRes s a).bind fun v => (aResL s as).map (v :: ·) := by
  simp only [aResL]; cases aRes s a <;> cases aResL s as <;> rfl
@[simp] theorem aRes_tmp (s : St) (t : Nat) : aRes s (.tmp t) = some (eget s.e t) := (rfl)
def rCell (n : Option Nat) (h : List ABlk) : AV → Option AV
  | .ptr (some p) => match n with
    | some n => (rdN h p n).map .agg
    | none => rd1 h p
  | _ => none
@[simp] theorem rCell_one (p : Ad) : rCell none h (.ptr (some p)) = rd1 h p := (rfl)
@[simp] theorem rCell_n (n : Nat) (p : Ad) : rCell (some n) h (.ptr (some p)) = (rdN h p n).map .agg := (rfl)
@[simp] theorem aRes_cell (s : St) (n : Option Nat) (t : Nat) : aRes s (.cell n t) = rCell n s.h (eget s.e t) := (rfl)
@[simp] theorem tupOf_one (v : AV) : tupOf [v] = v := (rfl)
@[simp] theorem tupOf_two (v w : AV) (vs : List AV) : tupOf (v :: w :: vs) = .tup (v :: w :: vs) := (rfl)
@[simp] theorem mup_new (w : List Nat) (k : Option (Nat × Nat)) (j n : Nat) (v : List AV) : mup h.length ⟨h.length, w, k⟩ [h.length + j] (lkOf (h.length + j) v) n = ⟨h.length, w, k⟩ := by
  simp only [mup, lkOf]
  have hf : [h.length + j].filter (· < h.length) = [] := by simp
  rw [hf]
  cases hv : (refsL v).filter (h.length + j < ·) with
  | nil => cases k <;> rfl
  | cons a l =>
    have : ¬ (h.length + j < h.length) := by omega
    simp only [adj, cut, addAll, this, false_and, if_false]
    cases k <;> rfl
@[simp] theorem mup_new0 (w : List Nat) (k : Option (Nat × Nat)) (n : Nat) (v : List AV) : mup h.length ⟨h.length, w, k⟩ [h.length] (lkOf h.length v) n = ⟨h.length, w, k⟩ := by
  simpa using mup_new (h := h) w k 0 n v
@[simp] theorem mup_wr (w : List Nat) (k : Option (Nat × Nat)) (j n : Nat) : mup h.length ⟨h.length, w, k⟩ [h.length + j] none n = ⟨h.length, w, k⟩ := by
  have hf : [h.length + j].filter (· < h.length) = [] := by simp
  simp only [mup, hf]
  cases k <;> rfl
end
attribute [simp] aBin_rem aBin_quo ite_bool ite_or ite_and

/-! ### loops with a known next state -/
def kNext {α : Type} (I : α → StK) (μ : α → Nat) (nx a : α) : StK := fun e h m => μ nx < μ a ∧ I nx e h m
@[simp] theorem kNext_ap {α : Type} (I : α → StK) (μ : α → Nat) (nx a : α) (e : List AV) (h : List ABlk) (m : Mt) : kNext I μ nx a e h m = (μ nx < μ a ∧ I nx e h m) := (rfl)
theorem wp_loopN {base : Nat} {inR : Bool} {α : Type} (I : α → StK) (μ : α → Nat) (nx : α → α) {b : ACode} {Q : ExK}
    (step : ∀ a e h m, I a e h m → wp pr base inR b e h m (onSeq (kNext I μ (nx a) a) Q)) :
    ∀ {a : α} {e : List AV} {h : List ABlk} {m : Mt}, I a e h m → wp pr base inR (.loop b) e h m Q :=
  wp_loop I μ fun a e h m hI => wp_mono b (onSeq_mono (fun e h m hk => ⟨nx a, hk⟩) fun _ _ _ _ h => h) (step a e h m hI)

/-! ### temporaries of an unknown list -/
theorem eget_eset_if (v : AV) : ∀ (e : List AV) (i j : Nat), eget (eset e i v) j = if j = i then v else eget e j
  | [], 0, 0 => rfl
  | [], 0, j + 1 => by simp [eset, eget]
  | [], i + 1, 0 => by simp [eset, eget]
  | [], i + 1, j + 1 => by
    simp only [eset, eget]
    rw [eget_eset_if v [] i j]
    simp [eget]
  | x :: e, 0, 0 => rfl
  | x :: e, 0, j + 1 => by simp [eset, eget]
  | x :: e, i + 1, 0 => by simp [eset, eget]
  | x :: e, i + 1, j + 1 => by
    simp only [eset, eget]
    rw [eget_eset_if v e i j]
    simp
@[simp] theorem eget_same (e : List AV) (i : Nat) (v : AV) : eget (eset e i v) i = v := by rw [eget_eset_if]; simp
@[simp] theorem eget_ne (e : List AV) (i j : Nat) (v : AV) (h : ¬ j = i) : eget (eset e i v) j = eget e j := by rw [eget_eset_if, if_neg h]
@[simp] theorem aEq2 (k1 k2 : IntKind) (a b c d : Int) : aEqAgg [some k1, some k2] false (.agg [.int k1 a, .int k2 b]) (.agg [.int k1 c, .int k2 d]) = some (.bool (a == c && b == d)) := by
  simp [aEqAgg, shapeL, shape1, codeL, code1]

/-! ### slices of flat cells -/
/-- The slice with address a and length n holds just the cells cs. -/
def SlAt (h : List ABlk) (a : Option Ad) (n size : Nat) (cs : List AV) : Prop :=
  cs.length = n * size ∧ (n = 0 ∨ ∃ b ro, a = some ⟨b, n * size, 0⟩ ∧ h[b]? = some (.row ro cs))
theorem SlAt.ext {h l : List ABlk} {a : Option Ad} {n size : Nat} {cs : List AV} (H : SlAt h a n size cs) : SlAt (h ++ l) a n size cs := by
  obtain ⟨h1, h2⟩ := H
  refine ⟨h1, h2.imp id ?_⟩
  rintro ⟨b, ro, ha, hb⟩
  exact ⟨b, ro, ha, hget_some hb⟩
theorem SlAt.get {h : List ABlk} {a : Option Ad} {n size : Nat} {cs : List AV} (H : SlAt h a n size cs) {i : Nat} (hi : i < n) : ∃ b ro, a = some ⟨b, n * size, 0⟩ ∧ (∀ l, (h ++ l)[b]? = some (.row ro cs)) ∧ h[b]? = some (.row ro cs) ∧ cs.length = n * size := by
  obtain ⟨h1, h2⟩ := H
  rcases h2 with rfl | ⟨b, ro, ha, hb⟩
  · omega
  · exact ⟨b, ro, ha, fun l => hget_some hb, hb, h1⟩
abbrev I (n : Int) : AV := .int .i64 n

theorem refsL_ints : ∀ {L : List Int}, refsL (L.map I) = []
  | [] => rfl
  | x :: l => by simp [refsL_ints (L := l)]
theorem flatMap_len {α β : Type} (f : α → List β) (k : Nat) (hk : ∀ x, (f x).length = k) : ∀ l : List α, (l.flatMap f).length = l.length * k
  | [] => by simp
  | x :: l => by simp [hk, flatMap_len f k hk l, Nat.add_mul, Nat.add_comm]
theorem flatMap_drop {α β : Type} (f : α → List β) (k : Nat) (hk : ∀ x, (f x).length = k) : ∀ (l : List α) (i : Nat), (l.flatMap f).drop (i * k) = (l.drop i).flatMap f
  | l, 0 => by simp
  | [], i + 1 => by simp
  | x :: l, i + 1 => by
    have : (i + 1) * k = (f x).length + i * k := by rw [hk]; rw [Nat.add_mul]; omega
    rw [this, List.flatMap_cons, List.drop_append, List.drop_of_length_le (by omega)]
    simp only [List.nil_append, List.drop_succ_cons]
    rw [show (f x).length + i * k - (f x).length = i * k by omega]
    exact flatMap_drop f k hk l i
theorem flatMap_at {α β : Type} {f : α → List β} {k : Nat} (hk : ∀ x, (f x).length = k) {l : List α} {i : Nat} {x : α} (hx : l[i]? = some x) : ((l.flatMap f).drop (i * k)).take k = f x := by
  rw [flatMap_drop f k hk]
  have : l.drop i = x :: l.drop (i + 1) := by
    obtain ⟨hlt, rfl⟩ := List.getElem?_eq_some_iff.mp hx
    exact List.drop_eq_getElem_cons hlt
  rw [this, List.flatMap_cons, List.take_append_of_le_length (by rw [hk]; exact Nat.le_refl _), List.take_of_length_le (by rw [hk]; exact Nat.le_refl _)]
theorem flatMap_at' {α β : Type} {f : α → List β} {k : Nat} (hk : ∀ x, (f x).length = k) {l : List α} {i : Nat} {x : α} (hx : l[i]? = some x) {j n : Nat} (hj : j + n ≤ k) : ((l.flatMap f).drop (i * k + j)).take n = ((f x).drop j).take n := by
  rw [← flatMap_at hk hx, ← List.drop_drop]
  rw [List.drop_take, List.take_take]
  congr 1
  omega
theorem flatMap_get {α β : Type} {f : α → List β} {k : Nat} (hk : ∀ x, (f x).length = k) {l : List α} {i : Nat} {x : α} (hx : l[i]? = some x) {j : Nat} (hj : j < k) : (l.flatMap f)[i * k + j]? = (f x)[j]? := by
  have h := flatMap_at' hk hx (j := j) (n := 1) (by omega)
  have := congrArg (·[0]?) h
  simpa [List.getElem?_take, List.getElem?_drop] using this

theorem ends_det {t : Tgt} {a : List AV} {h : List ABlk} {r r' : Ret} (h1 : Ends pr t a h r) (h2 : Ends pr t a h r') : r = r' := by
  obtain ⟨n, hn⟩ := h1
  obtain ⟨m, hm⟩ := h2
  have a1 := call_eq hn (Nat.le_max_left n m)
  have a2 := call_eq hm (Nat.le_max_right n m)
  rw [a1] at a2
  exact Option.some.inj a2
/-- Through a call whose end is known. -/
theorem ends_eq {t : Tgt} {a : List AV} {h : List ABlk} {r : Ret} {k : OpK} (H : Ends pr t a h r) : (∃ r, Ends pr t a h r ∧ kFst k r) = kFst k r :=
  propext ⟨fun ⟨r', h1, h2⟩ => ends_det H h1 ▸ h2, fun hk => ⟨r, H, hk⟩⟩

/-! ### rows that are filled -/
def fillS (M i : Nat) (a b : AV) : List AV := List.replicate i a ++ List.replicate (M - i) b
theorem fillS_len {M i : Nat} {a b : AV} (hi : i ≤ M) : (fillS M i a b).length = M := by simp [fillS]; omega
theorem fillS_set {M i : Nat} {a b : AV} (hi : i < M) : (fillS M i a b).set i a = fillS M (i + 1) a b := by
  unfold fillS
  rw [List.set_append_right _ _ (by simp)]
  have : M - i = M - (i + 1) + 1 := by omega
  rw [this, List.replicate_succ, List.replicate_succ']
  simp
@[simp] theorem fillS_0 (M : Nat) (a b : AV) : fillS M 0 a b = List.replicate M b := by simp [fillS]
@[simp] theorem fillS_M (M : Nat) (a b : AV) : fillS M M a b = List.replicate M a := by simp [fillS]

/-! ### loops over a range -/
def rgQ (J : Nat → StK) (IDX K i : Nat) (Q : ExK) : ExK := fun x e h m =>
  match x with
  | .normal => J (i + 1) e h m ∧ eget e IDX = I i
  | .exit j => onBlk K Q (.exit j) e h m
  | .ret => Q .ret e h m
section
variable {e : List AV} {h : List ABlk} {m : Mt} {J : Nat → StK} {IDX K i : Nat} {Q : ExK}
@[simp] theorem rgQ_normal : rgQ J IDX K i Q .normal e h m = (J (i + 1) e h m ∧ eget e IDX = I i) := (rfl)
@[simp] theorem rgQ_exit (j : Nat) : rgQ J IDX K i Q (.exit j) e h m = onBlk K Q (.exit j) e h m := (rfl)
@[simp] theorem rgQ_ret : rgQ J IDX K i Q .ret e h m = Q .ret e h m := (rfl)
end
theorem wp_range {base : Nat} {inR : Bool} {T IDX U K K1 : Nat} {len : AOpd} {body : ACode} {n : Nat} (J : Nat → StK) {Q : ExK} {e : List AV} {h : List ABlk} {m : Mt}
    (hn : n < 4611686018427387904) (hne : ¬ IDX = T ∧ ¬ T = IDX)
    (stab : ∀ i e h m t v, (t = T ∨ t = U ∨ t = IDX) → J i e h m → J i (eset e t v) h m)
    (hlen : ∀ i e h m, J i e h m → av e len = I n)
    (h0 : J 0 e h m) (hi0 : eget e IDX = I 0)
    (hbody : ∀ i e h m, i < n → J i e h m → eget e IDX = I i → wp pr base inR body e h m (onBlk K1 (rgQ J IDX K i Q)))
    (done : ∀ e h m, J n e h m → Q .normal e h m) :
    wp pr base inR (.loop (.seq (.region [⟨some T, .bin .lss (.t IDX) len, none⟩] [] false) (.seq (.cond (.t T) .skip (.exit K)) (.seq (.block K1 body) (.region [⟨some U, .bin .add (.t IDX) (.c (.int .i64 1)), none⟩, ⟨some IDX, .mv (.t U), none⟩] [] false))))) e h m (onBlk K Q) := by
  refine wp_loopN (fun i e h m => i ≤ n ∧ J i e h m ∧ eget e IDX = I i) (fun i => n - i) (· + 1) ?_ (a := 0) ⟨by omega, h0, hi0⟩
  rintro i e h m ⟨hi, hJ, hx⟩
  have hl := hlen _ _ _ _ hJ
  simp only [wp_seq, wp_region, wpOps_cons, wpStep_none, wpOp_bin, av_t, hx, hl, aBin_lss, kVal_some, kStep_ap, setD_some, mup_none, kOps_ap, wpOps_nil, kQ_ap, onSeq_normal, kSeq_ap, wp_cond, eget_same, kCond_bool, wp_skip, wp_exit]
  have hJ1 : J i (eset e T (.bool (decide ((i : Int) < n)))) h m := stab _ _ _ _ _ _ (.inl rfl) hJ
  have hx1 : eget (eset e T (.bool (decide ((i : Int) < n)))) IDX = I i := by rw [eget_ne _ _ _ _ hne.1]; exact hx
  refine ⟨fun hlt => ?_, fun hge => ?_⟩
  · have hlt : i < n := by simpa using hlt
    simp only [wp_block]
    refine wp_mono body ?_ (hbody i _ h m hlt hJ1 hx1)
    intro x e1 h1 m1 hq
    cases x with
    | normal =>
      simp only [onBlk_normal, rgQ_normal] at hq
      obtain ⟨hJ2, hx2⟩ := hq
      have hw : IntKind.i64.wrap ((i : Int) + 1) = ((i + 1 : Nat) : Int) := by rw [wrap64 (by omega) (by omega)]; rfl
      simp only [onBlk_normal, onSeq_normal, kSeq_ap, wp_region, wpOps_cons, wpStep_none, wpOp_bin, av_t, av_c, hx2, aBin_add, hw, kVal_some, kStep_ap, setD_some, mup_none, kOps_ap, wpOp_mv, eget_same, wpOps_nil, kQ_ap, kNext_ap]
      refine ⟨by omega, by omega, stab _ _ _ _ _ _ (.inr (.inr rfl)) (stab _ _ _ _ _ _ (.inr (.inl rfl)) hJ2), trivial⟩
    | ret => simpa using hq
    | exit j =>
      simp only [onBlk_exit] at hq ⊢
      split
      · rename_i hj
        rw [if_pos hj] at hq
        simp only [rgQ_normal] at hq
        obtain ⟨hJ2, hx2⟩ := hq
        have hw : IntKind.i64.wrap ((i : Int) + 1) = ((i + 1 : Nat) : Int) := by rw [wrap64 (by omega) (by omega)]; rfl
        simp only [onBlk_normal, onSeq_normal, kSeq_ap, wp_region, wpOps_cons, wpStep_none, wpOp_bin, av_t, av_c, hx2, aBin_add, hw, kVal_some, kStep_ap, setD_some, mup_none, kOps_ap, wpOp_mv, eget_same, wpOps_nil, kQ_ap, kNext_ap]
        refine ⟨by omega, by omega, stab _ _ _ _ _ _ (.inr (.inr rfl)) (stab _ _ _ _ _ _ (.inr (.inl rfl)) hJ2), trivial⟩
      · rename_i hj
        rw [if_neg hj] at hq
        simpa using hq
  · have hge : n ≤ i := by simpa using hge
    have : i = n := by omega
    subst this
    simp only [onBlk_exit, if_true, onSeq_exit]
    exact done _ _ _ hJ1

end Go.Proofs.Ytocoadpepofbbaa.AM

/-
  STEPPING THROUGH append AND copy; abbreviations.
-/
set_option linter.unusedVariables false
set_option linter.unusedSimpArgs false
namespace Go.Proofs.Ytocoadpepofbbaa.AM
open Go
variable {pr : FuncId → Option AFunc} {e : List AV} {h : List ABlk} {k : OpK}

@[simp] theorem add_lt_self (n k : Nat) : (n + k < n) = False := by simp
@[simp] theorem gcons0 {α : Type} (a : α) (l : List α) : (a :: l)[0]? = some a := (rfl)
@[simp] theorem gconsS {α : Type} (a : α) (l : List α) (n : Nat) : (a :: l)[n + 1]? = l[n]? := (rfl)
theorem wrN_mid : ∀ (b' a b c : List AV), b'.length = b.length → wrN (a ++ (b ++ c)) a.length b' = a ++ (b' ++ c)
  | [], a, b, c, hl => by
    have : b = [] := by cases b <;> simp_all
    subst this; rfl
  | v :: b', a, [], c, hl => by simp at hl
  | v :: b', a, x :: b, c, hl => by
    rw [wrN_cons, List.set_append_right _ _ (Nat.le_refl _)]
    have : a ++ ((x :: b) ++ c).set (a.length - a.length) v = (a ++ [v]) ++ (b ++ c) := by simp
    rw [this, show a.length + 1 = (a ++ [v]).length by simp, wrN_mid b' (a ++ [v]) b c (by simpa using hl)]
    simp
theorem wrN_all {zs vs : List AV} (hl : vs.length = zs.length) : wrN zs 0 vs = vs := by
  have := wrN_mid vs [] zs [] hl
  simpa using this
/-- A row of M groups of k cells of which the first i are filled. -/
def fillG (M i : Nat) (f : Nat → List AV) (z : List AV) : List AV := (List.range i).flatMap f ++ (List.replicate (M - i) z).flatten
theorem fillG_len {M i k : Nat} {f : Nat → List AV} {z : List AV} (hf : ∀ j, (f j).length = k) (hz : z.length = k) (hi : i ≤ M) : (fillG M i f z).length = M * k := by
  simp [fillG, flatMap_len f k hf, hz]
  rw [← Nat.add_mul]; congr 1; omega
theorem fillG_set {M i k : Nat} {f : Nat → List AV} {z : List AV} (hf : ∀ j, (f j).length = k) (hz : z.length = k) (hi : i < M) : wrN (fillG M i f z) (i * k) (f i) = fillG M (i + 1) f z := by
  have h1 : ((List.range i).flatMap f).length = i * k := by simp [flatMap_len f k hf]
  have h2 : M - i = M - (i + 1) + 1 := by omega
  unfold fillG
  rw [h2, List.replicate_succ, List.flatten_cons, ← h1, wrN_mid _ _ _ _ (by rw [hf, hz])]
  simp [List.range_succ]
@[simp] theorem fillG_0 (M : Nat) (f : Nat → List AV) (z : List AV) : fillG M 0 f z = (List.replicate M z).flatten := by simp [fillG]
@[simp] theorem fillG_M (M : Nat) (f : Nat → List AV) (z : List AV) : fillG M M f z = (List.range M).flatMap f := by simp [fillG]
/-- A fresh slice of n cells that has a block for itself. -/
abbrev SL (b n : Nat) : AV := .sl (some ⟨b, n, 0⟩) n (.k n)
/-- A grown slice of n cells. -/
abbrev SU (b n : Nat) : AV := .sl (some ⟨b, n, 0⟩) n (.u 1)
abbrev M0 (h : List ABlk) : Mt := ⟨h.length, [], none⟩

@[simp] theorem slCells_some (size n : Nat) (p : Ad) (len : Nat) (c : Cap) : slCells h size n (.sl (some p) len c) = if n ≤ len then (rdN h p (n * size)).map (·, [p.b]) else none := (rfl)
@[simp] theorem slCells_none (size n : Nat) (len : Nat) (c : Cap) : slCells h size n (.sl none len c) = if n = 0 then some ([], []) else none := (rfl)

def appB (size : Nat) (h : List ABlk) (k : OpK) (p : Ad) (len n : Nat) (new : List AV) (acc : List Nat) : Cap → Option ABlk → Prop
  | .u sz, some (.row ro cs) => (cs.length = p.g ∧ ro = false ∧ p.o = 0 ∧ cs.length = len * size ∧ sz = size) ∧
      k (.sl (some ⟨p.b, (cs ++ new).length, 0⟩) (len + n) (.u size)) (h.set p.b (.row false (cs ++ new))) [p.b] (lkOf p.b new) (some (p.b :: acc))
  | .k cp, some (.row ro cs) => cs.length = p.g ∧
      if len + n ≤ cp then (ro = false ∧ p.o = 0 ∧ (len + n) * size ≤ cs.length) ∧ k (.sl (some p) (len + n) (.k cp)) (h.set p.b (.row false (wrN cs (len * size) new))) [p.b] (lkOf p.b new) (some (p.b :: acc))
      else (len ≤ cp ∧ p.o + len * size ≤ cs.length) ∧
        if ro = false ∧ p.o = 0 ∧ cs.length = cp * size then
          k (.sl (some ⟨p.b, (cs.take (len * size) ++ new).length, 0⟩) (len + n) (.u size)) (h.set p.b (.row false (cs.take (len * size) ++ new))) [p.b] (lkOf p.b new) (some (p.b :: acc))
        else k (.sl (some ⟨h.length, ((cs.drop p.o).take (len * size) ++ new).length, 0⟩) (len + n) (.u size)) (h ++ [.row false ((cs.drop p.o).take (len * size) ++ new)]) [] none (some (p.b :: acc))
  | _, _ => False
@[simp] theorem appB_u (size : Nat) (b g o : Nat) (len n : Nat) (new : List AV) (acc : List Nat) (sz : Nat) (ro : Bool) (cs : List AV) :
    appB size h k ⟨b, g, o⟩ len n new acc (.u sz) (some (.row ro cs)) = ((cs.length = g ∧ ro = false ∧ o = 0 ∧ cs.length = len * size ∧ sz = size) ∧
      k (.sl (some ⟨b, (cs ++ new).length, 0⟩) (len + n) (.u size)) (h.set b (.row false (cs ++ new))) [b] (lkOf b new) (some (b :: acc))) := (rfl)
@[simp] theorem appB_k (size : Nat) (b g o : Nat) (len n : Nat) (new : List AV) (acc : List Nat) (cp : Nat) (ro : Bool) (cs : List AV) :
    appB size h k ⟨b, g, o⟩ len n new acc (.k cp) (some (.row ro cs)) = (cs.length = g ∧
      if len + n ≤ cp then (ro = false ∧ o = 0 ∧ (len + n) * size ≤ cs.length) ∧ k (.sl (some ⟨b, g, o⟩) (len + n) (.k cp)) (h.set b (.row false (wrN cs (len * size) new))) [b] (lkOf b new) (some (b :: acc))
      else (len ≤ cp ∧ o + len * size ≤ cs.length) ∧
        if ro = false ∧ o = 0 ∧ cs.length = cp * size then
          k (.sl (some ⟨b, (cs.take (len * size) ++ new).length, 0⟩) (len + n) (.u size)) (h.set b (.row false (cs.take (len * size) ++ new))) [b] (lkOf b new) (some (b :: acc))
        else k (.sl (some ⟨h.length, ((cs.drop o).take (len * size) ++ new).length, 0⟩) (len + n) (.u size)) (h ++ [.row false ((cs.drop o).take (len * size) ++ new)]) [] none (some (b :: acc))) := (rfl)
def app1 (size bytes : Nat) (h : List ABlk) (k : OpK) (a : Option Ad) (len : Nat) (cap : Cap) (n : Nat) : Option (List AV × List Nat) → Prop
  | some (new, acc) =>
    if n = 0 then k (.sl a len cap) h [] none (some [])
    else ((len + n) * bytes ≤ 140737488355328 ∧ new.all AV.one = true) ∧
      match a with
      | none => k (.sl (some ⟨h.length, new.length, 0⟩) n (.u size)) (h ++ [.row false new]) [] none (some acc)
      | some p => appB size h k p len n new acc cap h[p.b]?
  | none => False
@[simp] theorem app1_ite (size bytes : Nat) (a : Option Ad) (len : Nat) (cap : Cap) (n : Nat) (c : Prop) [Decidable c] (x : Option (List AV × List Nat)) :
    app1 size bytes h k a len cap n (if c then x else none) = (c ∧ app1 size bytes h k a len cap n x) := by
  by_cases hc : c <;> simp [hc, app1]
@[simp] theorem app1_none (size bytes : Nat) (len : Nat) (cap : Cap) (n : Nat) (new : List AV) (acc : List Nat) : app1 size bytes h k none len cap n (some (new, acc)) =
    if n = 0 then k (.sl none len cap) h [] none (some []) else ((len + n) * bytes ≤ 140737488355328 ∧ new.all AV.one = true) ∧ k (.sl (some ⟨h.length, new.length, 0⟩) n (.u size)) (h ++ [.row false new]) [] none (some acc) := (rfl)
@[simp] theorem app1_some (size bytes : Nat) (b g o : Nat) (len : Nat) (cap : Cap) (n : Nat) (new : List AV) (acc : List Nat) : app1 size bytes h k (some ⟨b, g, o⟩) len cap n (some (new, acc)) =
    if n = 0 then k (.sl (some ⟨b, g, o⟩) len cap) h [] none (some []) else ((len + n) * bytes ≤ 140737488355328 ∧ new.all AV.one = true) ∧ appB size h k ⟨b, g, o⟩ len n new acc cap h[b]? := (rfl)
def kApp (size bytes : Nat) (h : List ABlk) (k : OpK) : AV → AV → Prop
  | .sl a len cap, .sl b n c => app1 size bytes h k a len cap n (slCells h size n (.sl b n c))
  | _, _ => False
@[simp] theorem kApp_sl (size bytes : Nat) (a : Option Ad) (len : Nat) (cap : Cap) (b : Option Ad) (n : Nat) (c : Cap) : kApp size bytes h k (.sl a len cap) (.sl b n c) = app1 size bytes h k a len cap n (slCells h size n (.sl b n c)) := (rfl)
@[simp] theorem wpOp_append (size bytes : Nat) (x y : AOpd) : wpOp pr (.append size bytes x y) e h k = kApp size bytes h k (av e x) (av e y) := by
  simp only [wpOp, wpPlain_eq, aOp]
  cases av e x with
  | sl a len cap => cases av e y with
    | sl b n c =>
      simp only [kApp]
      cases slCells h size n (.sl b n c) with
      | none => rfl
      | some na =>
        obtain ⟨new, acc⟩ := na
        simp only [app1]
        by_cases hn : n = 0
        · simp [hn]
        · simp only [if_neg hn]
          by_cases hc : (len + n) * bytes ≤ 140737488355328 ∧ new.all AV.one = true
          · rw [if_pos hc]
            simp only [hc, and_self, true_and]
            cases a with
            | none => rfl
            | some p =>
              obtain ⟨pb, pg, po⟩ := p
              dsimp only
              cases h[pb]? with
              | none => cases cap <;> rfl
              | some B => cases B with
                | row ro cs =>
                  by_cases hg : cs.length = pg
                  · simp only [if_pos hg]
                    cases cap with
                    | k cp =>
                      simp only [appB_k, hg, true_and]
                      by_cases h1 : len + n ≤ cp
                      · simp only [if_pos h1]
                        split
                        · simp_all
                        · rename_i hx
                          have hx' : ¬ (ro = false ∧ po = 0 ∧ (len + n) * size ≤ pg) := by simpa [hg] using hx
                          simp only [hx', false_and]; rfl
                      · simp only [if_neg h1]
                        by_cases h2 : len ≤ cp ∧ po + len * size ≤ pg
                        · rw [if_pos (by simpa [hg] using h2)]
                          simp only [h2, and_self, true_and]
                          split <;> simp_all
                        · rw [if_neg (by simpa [hg] using h2)]
                          simp [h2]
                    | u sz =>
                      simp only [appB_u, hg, true_and]
                      split <;> simp_all
                  · simp only [if_neg hg]
                    cases cap <;> simp [hg]
                | _ => cases cap <;> rfl
          · rw [if_neg hc]; simp only [hc, false_and]; rfl
    | _ => rfl
  | _ => rfl

end Go.Proofs.Ytocoadpepofbbaa.AM
