/-
  THE SIMPLE OPERATIONS, one by one.
-/
import Derived.Test.YtocoadpepofbbaaG2
import Derived.Laws.NewFold
set_option linter.unusedVariables false
set_option linter.unusedSimpArgs false
namespace Go.Proofs.Ytocoadpepofbbaa.AM
open Go

section
variable {ι : Emb} {x : Value}
theorem VRel.inv_int {k : IntKind} {n : Int} (h : VRel ι (.int k n) x) : x = .int k n := by cases h; rfl
theorem VRel.inv_bool {b : Bool} (h : VRel ι (.bool b) x) : x = .bool b := by cases h; rfl
theorem VRel.inv_str {s : ByteArray} (h : VRel ι (.str s) x) : x = .string s := by cases h; rfl
theorem VRel.inv_ptr {p : Ad} (h : VRel ι (.ptr (some p)) x) : ∃ l, ι p.b p.g = some l ∧ x = .pointer (some ⟨l.c, l.o + p.o, none⟩) := by
  cases h with
  | ptr h => exact ⟨_, h, rfl⟩
theorem VRel.inv_slN {len : Nat} {c : Cap} (h : VRel ι (.sl none len c) x) : len = 0 ∧ c = .k 0 ∧ x = .slice none 0 0 := by
  cases h; exact ⟨rfl, rfl, rfl⟩
theorem VRel.inv_sl {p : Ad} {len : Nat} {c : Cap} (h : VRel ι (.sl (some p) len c) x) : ∃ l cap ad, ι p.b p.g = some l ∧ len ≤ cap ∧ CapOk l p cap c ∧ (0 < cap → ad = ⟨l.c, l.o + p.o, none⟩) ∧ x = .slice (some ad) len cap := by
  cases h with
  | sl h1 h2 h3 h4 => exact ⟨_, _, _, h1, h2, h3, h4, rfl⟩
theorem VRel.inv_agg {cs : List AV} (h : VRel ι (.agg cs) x) : ∃ vs, VRelL ι cs vs ∧ x = .agg vs.toArray := by
  cases h with
  | agg h => exact ⟨_, h, rfl⟩
theorem VRel.inv_tup {cs : List AV} (h : VRel ι (.tup cs) x) : ∃ vs, VRelL ι cs vs ∧ x = .tuple vs.toArray := by
  cases h with
  | tup h => exact ⟨_, h, rfl⟩
theorem VRel.inv_fn {f : FuncId} {cs : List AV} (h : VRel ι (.fn f cs) x) : ∃ vs, VRelL ι cs vs ∧ x = .func (.func f) #[] vs.toArray := by
  cases h with
  | fn h => exact ⟨_, h, rfl⟩
theorem VRel.inv_yld {r : Nat} (h : VRel ι (.yld r) x) : ∃ l, ι r 0 = some l ∧ x = .func (.yield l.c) #[] #[] := by
  cases h with
  | yld h => exact ⟨_, h, rfl⟩
theorem VRel.inv_mapN (h : VRel ι (.map none) x) : x = .map none := by cases h; rfl
theorem VRel.inv_map {r : Nat} (h : VRel ι (.map (some r)) x) : ∃ l, ι r 0 = some l ∧ x = .map (some l.c) := by
  cases h with
  | map h => exact ⟨_, h, rfl⟩
end

section
variable {P : Program} {B : Nat} {ι : Emb} {h : List ABlk} {w : World} {e : List AV} {nt : Nat} {o : Oper} {a : Act} {r : OpR} {call : Tgt → List AV → List ABlk → Option Ret}

theorem ok_mv {x : Operand} (hop : o.op = .move x ∨ o.op = .assign x) {ax : AOpd} (hx : opd x = some ax) (he : ERel ι nt e a.tmps) (hr : aOp call e h (.mv ax) = some r) : OpOk P B ι h w o a r := by
  simp only [aOp, Option.some.injEq] at hr; subst hr
  refine OpOk.pure (x := a.eval x) ?_ (opd_sound he hx)
  rcases hop with hop | hop <;> simp only [execOp, hop] <;> rfl

theorem ok_pick {c x y : Operand} (hop : o.op = .pick c x y) {ac ax ay : AOpd} (hc : opd c = some ac) (hx : opd x = some ax) (hy : opd y = some ay) (he : ERel ι nt e a.tmps)
    (hr : aOp call e h (.pick ac ax ay) = some r) : OpOk P B ι h w o a r := by
  simp only [aOp] at hr
  have hv := opd_sound he hc
  split at hr
  · rename_i t heq
    cases hr
    rw [heq] at hv
    have hv := hv.inv_bool
    refine OpOk.pure (x := if t then a.eval x else a.eval y) ?_ (by cases t <;> simp [opd_sound he hx, opd_sound he hy])
    simp only [execOp, hop, Sem.run_bind, hv, asBool, Sem.run_pure, Result.andThen_ok]
  · cases hr

theorem ok_new {t : TypeId} (hop : o.op = .alloc t) {zs : List AV} (hz : zeroT P t = some zs) (hn : ∀ g, ι h.length g = none) (hB : B ≤ w.heap.size)
    (hr : aOp call e h (.new zs) = some r) : OpOk P B ι h w o a r := by
  simp only [aOp, Option.some.injEq] at hr; subst hr
  obtain ⟨i, z, hi, hz', hrel⟩ := zeroT_spec hz
  refine ⟨_, .pointer (some ⟨w.heap.size, 0, none⟩), w.alloc (.cells z.cells t), ⟨_, ?_, .inl rfl⟩, .ptr (l := ⟨w.heap.size, 0, z.cells.size⟩) ?_, ext_row hn hB rfl rfl fun ι' hs => ((hrel ι')).rowR⟩
  · simp only [execOp, hop, Instr.alloc, Sem.run_bind, run_zeroValue hi hz', Result.andThen_ok, newVar, newRow, run_newObj_alloc, Sem.run_pure]
  · exact upd_same _ _ _ _

theorem ok_box {t : TypeId} {x : Operand} (hop : o.op = .box t x) {ax : AOpd} (hx : opd x = some ax) (he : ERel ι nt e a.tmps) (hn : ∀ g, ι h.length g = none) (hB : B ≤ w.heap.size)
    (hr : aOp call e h (.box ax) = some r) : OpOk P B ι h w o a r := by
  simp only [aOp, Option.some.injEq] at hr; subst hr
  have hv := cells_rel (opd_sound he hx)
  refine ⟨_, .pointer (some ⟨w.heap.size, 0, none⟩), w.alloc (.cells (a.eval x).cells t), ⟨_, ?_, .inl rfl⟩, .ptr (l := ⟨w.heap.size, 0, (a.eval x).cells.size⟩) ?_, ext_row hn hB rfl rfl fun ι' hs => (hv.mono hs).rowR⟩
  · simp only [execOp, hop, Instr.box, Sem.run_bind, Result.andThen_ok, newVar, newRow, run_newObj_alloc, Sem.run_pure]
  · exact upd_same _ _ _ _

/-! ### aggregates out of parts -/
theorem foldl_wr {ι : Emb} : ∀ {vs : List AV} {xs : List Value} {cs : List AV} {c : Array Value} (o j : Nat), VRelL ι cs c.toList → VRelL ι vs xs →
    VRelL ι (wrN cs (o + j) vs) ((xs.zipIdx j).foldl (fun cs p => cs.setIfInBounds (o + p.2) p.1) c).toList
  | [], _, cs, c, o, j, hc, .nil => hc
  | v :: vs, _, cs, c, o, j, hc, .cons (v := x) hx ht => by
    simp only [wrN, List.zipIdx_cons, List.foldl_cons]
    have := foldl_wr (vs := vs) o (j + 1) (cs := cs.set (o + j) v) (c := c.setIfInBounds (o + j) x) (by simpa using hc.set (o + j) hx) ht
    simpa [Nat.add_assoc] using this
theorem fill_sound {ι : Emb} (place : Nat → Option (Nat × Nat)) : ∀ {ps : List (Nat × Operand)} {aps : List (Nat × Nat × AOpd)} {cs : List AV} {c : Array Value} {cs' : List AV}, partsOf place ps = some aps →
    (∀ x ax, opd x = some ax → VRel ι (av e ax) (a.eval x)) → VRelL ι cs c.toList → aFill cs (aps.map fun p => (p.1, p.2.1, av e p.2.2)) = some cs' →
    ∃ c', Instr.fill place c (ps.map fun p => (p.1, a.eval p.2)) = some c' ∧ VRelL ι cs' c'.toList
  | [], aps, cs, c, cs', hp, hx, hc, hf => by
    simp only [partsOf, Option.some.injEq] at hp; subst hp
    simp only [List.map_nil, aFill, Option.some.injEq] at hf; subst hf
    exact ⟨c, rfl, hc⟩
  | (i, x) :: ps, aps, cs, c, cs', hp, hx, hc, hf => by
    simp only [partsOf] at hp
    split at hp
    · rename_i o s ax rs h1 h2 h3
      cases hp
      simp only [List.map_cons, aFill] at hf
      split at hf
      · rename_i hcond
        have hv := cells_rel (hx x ax h2)
        have hlv := hv.length
        have hlc := hc.length
        simp only [Array.length_toList] at hlv hlc
        have hstep := foldl_wr o 0 hc hv
        obtain ⟨c', h4, h5⟩ := fill_sound place h3 hx hstep hf
        refine ⟨c', ?_, h5⟩
        simp only [List.map_cons, Instr.fill, h1]
        rw [if_neg (by simp; omega)]
        rw [← h4]
        congr 1
        rw [← Array.foldl_toList, Array.toList_zipIdx]
      · cases hf
    · cases hp

theorem partsOf_map (ps : Array (Nat × Operand)) (ev : Operand → Value) : (ps.map fun (i, x) => (i, ev x)).toList = ps.toList.map fun p => (p.1, ev p.2) := by simp

theorem sized_places {fs : List Field} (hs : (fs.all fun f => (sizeT P f.type).isSome) = true) : ∃ pl, fs.mapM (fun f => (P.info? f.type).map fun i => (f.offset, i.size)) = some pl ∧
    ∀ i : Nat, pl[i]? = match fs[i]? with | some f => (match sizeT P f.type with | some s => some (f.offset, s) | none => none) | none => none := by
  induction fs with
  | nil => exact ⟨[], by simp, fun i => by simp⟩
  | cons f fs ih =>
    simp only [List.all_cons, Bool.and_eq_true] at hs
    obtain ⟨pl, h1, h2⟩ := ih hs.2
    obtain ⟨s, hsz⟩ := Option.isSome_iff_exists.1 hs.1
    obtain ⟨i, hi, hsi⟩ := sizeT_spec hsz
    refine ⟨(f.offset, i.size) :: pl, by simp [List.mapM_cons, hi, h1], fun j => ?_⟩
    cases j with
    | zero => simp [hsz, hsi]
    | succ j => simpa using h2 j

theorem ok_build {t : TypeId} {ps : Array (Nat × Operand)} (hop : o.op = .build t ps) {zs : List AV} {pl : Nat → Option (Nat × Nat)} {aps : List (Nat × Nat × AOpd)} (hz : zeroT P t = some zs) (hpl : placesT P t = some pl) (hsz : sized P t = true)
    (hps : partsOf pl ps.toList = some aps) (he : ERel ι nt e a.tmps) (hr : aOp call e h (.build zs aps) = some r) : OpOk P B ι h w o a r := by
  simp only [aOp] at hr
  split at hr
  · rename_i cs hf
    cases hr
    obtain ⟨it, z, hi, hz', hrel⟩ := zeroT_spec hz
    obtain ⟨c', h1, h2⟩ := fill_sound (a := a) (ι := ι) pl hps (fun x ax hx => opd_sound he hx) (hrel ι) hf
    have hb : P.built t (ps.map fun (i, x) => (i, a.eval x)).toList = some c' := by
      rw [partsOf_map]
      unfold Program.built
      unfold placesT at hpl
      split at hpl
      · rename_i fs hu
        cases hpl
        have hs : (fs.toList.all fun f => (sizeT P f.type).isSome) = true := by simpa [sized, hu] using hsz
        obtain ⟨pl, h3, h4⟩ := sized_places hs
        simp only [hi, hu, hz', h3]
        rw [← h1]
        congr 1
        funext i
        rw [List.getElem?_toArray, h4 i]
        rw [show fs.toList[i]? = fs[i]? from by simp]
        cases fs[i]? with
        | none => rfl
        | some f => rfl
      · rename_i n el hu
        split at hpl
        · rename_i s hs
          cases hpl
          obtain ⟨ie, hie, hse⟩ := sizeT_spec hs
          simp only [hi, hu, hz', hie, hse]
          exact h1
        · cases hpl
      · cases hpl
    refine OpOk.pure (x := .agg c') ?_ ?_
    · simp only [execOp, hop, Sem.run_bind, run_build w t _ c' hb, Result.andThen_ok, Sem.run_pure]
    · have := VRel.agg h2
      simpa using this
  · cases hr

theorem madeCells_rel {ι : Emb} {z : List AV} {x : Array Value} (hz : VRelL ι z x.toList) (hpos : 0 < z.length) (n : Nat) : VRelL ι (List.replicate n z).flatten (madeCells x (n * z.length)).toList := by
  have hl := hz.length
  simp only [Array.length_toList] at hl
  have hrep := hz.rep n
  have : (madeCells x (n * z.length)).toList = (List.replicate n x.toList).flatten := by
    apply List.ext_getElem?
    intro j
    by_cases hj : j < n * z.length
    · have h1 : (madeCells x (n * z.length)).toList[j]? = some (x[j % x.size]!) := by
        simp [madeCells, hj]
      rw [h1]
      have h2 : ∀ (n j : Nat), j < n * z.length → (List.replicate n x.toList).flatten[j]? = some (x[j % x.size]!) := by
        intro n
        induction n with
        | zero => intro j hj; simp at hj
        | succ n ih =>
          intro j hj
          simp only [List.replicate_succ, List.flatten_cons]
          rw [Nat.succ_mul] at hj
          by_cases hlt : j < x.size
          · rw [List.getElem?_append_left (by simpa using hlt), Nat.mod_eq_of_lt hlt]
            rw [List.getElem?_eq_getElem (by simpa using hlt)]
            simp [hlt]
          · rw [List.getElem?_append_right (by simp; omega), Array.length_toList, ih (j - x.size) (by omega)]
            have hle : x.size ≤ j := by omega
            rw [Nat.mod_eq_sub_mod hle]
      rw [h2 n j hj]
    · rw [List.getElem?_eq_none (by simp [madeCells]; omega), List.getElem?_eq_none (by rw [← hrep.length]; simp; omega)]
  rw [this]
  exact hrep

theorem ok_buildSl {t : TypeId} {len : Nat} {ps : Array (Nat × Operand)} (hop : o.op = .buildSlice t len ps) {el : TypeId} (hu : P.underlying t = some (.slice el)) {s : Nat} {z : List AV} (hs : sizeT P el = some s) (hz : zeroT P el = some z)
    (hc : len * s ≤ 2 ^ 24 ∧ z.length = s ∧ 0 < s) {aps : List (Nat × Nat × AOpd)} (hps : partsOf (fun i => some (i * s, s)) ps.toList = some aps) (he : ERel ι nt e a.tmps)
    (hn : ∀ g, ι h.length g = none) (hB : B ≤ w.heap.size) (hr : aOp call e h (.buildSl (List.replicate len z).flatten len aps) = some r) : OpOk P B ι h w o a r := by
  simp only [aOp] at hr
  split at hr
  · rename_i cs hf
    cases hr
    obtain ⟨it, zv, hi, hz', hrel⟩ := zeroT_spec hz
    obtain ⟨it', hi', hs'⟩ := sizeT_spec hs
    rw [hi] at hi'; cases hi'
    have hmade : ∀ ι : Emb, VRelL ι (List.replicate len z).flatten (madeCells zv.cells (len * it.size)).toList := by
      intro ι
      have := madeCells_rel (hrel ι) (by omega) len
      rwa [hc.2.1, ← hs'] at this
    obtain ⟨c', h1, h2⟩ := fill_sound (a := a) (ι := ι) _ hps (fun x ax hx => opd_sound he hx) (hmade ι) hf
    have hrun : (Instr.buildSlice t len (ps.map fun (i, x) => (i, a.eval x))).run P w = .ok (.slice (some ⟨w.heap.size, 0, none⟩) len len) (w.alloc (.cells c' el)) := by
      by_cases h0 : len * it.size = 0
      · have hlen : len = 0 := by
          rcases Nat.mul_eq_zero.1 h0 with h0 | h0
          · exact h0
          · omega
        subst hlen
        have hfill : Instr.fill (fun i => some (i * it.size, it.size)) #[] (ps.map fun (i, x) => (i, a.eval x)).toList = some c' := by
          rw [partsOf_map]
          have h1' := h1
          rw [show madeCells zv.cells (0 * it.size) = #[] from by simp [madeCells, Array.range_zero']] at h1'
          rw [hs']; exact h1'
        have hz0 : (Array.range (0 * it.size)).map (fun x => (#[] : Array Value)[x % (#[] : Array Value).size]!) = #[] := by simp [Array.range_zero']
        simp only [Instr.buildSlice, Sem.run_bind, run_underlying hu, Result.andThen_ok, run_sizeOf hi]
        rw [if_neg (by simp), if_pos (by simp)]
        simp only [Sem.run_bind, Sem.run_pure, Result.andThen_ok, hz0, hfill, newRow, run_newObj_alloc]
      · refine run_buildSlice w t el len _ c' it zv hu hi hz' (by rw [hs']; omega) h0 ?_
        rw [partsOf_map, hs']
        rw [← hs']
        have : madeCells zv.cells (len * it.size) = (Array.range (len * it.size)).map (zv.cells[· % zv.cells.size]!) := rfl
        rw [← this]
        have h1' := h1
        rw [← hs'] at h1'
        exact h1'
    have hlen := h2.length
    simp only [Array.length_toList] at hlen
    refine ⟨_, .slice (some ⟨w.heap.size, 0, none⟩) len len, w.alloc (.cells c' el), ⟨_, ?_, .inl rfl⟩, .sl (l := ⟨w.heap.size, 0, c'.size⟩) ?_ (Nat.le_refl _) rfl (fun _ => rfl), ext_row hn hB rfl rfl fun ι' hs => (h2.mono hs).rowR⟩
    · simp only [execOp, hop, Sem.run_bind, hrun, Result.andThen_ok, Sem.run_pure]
    · exact upd_same _ _ _ _
  · cases hr

/-! ### loads and stores -/
theorem ok_load {t : TypeId} {x : Operand} (hop : o.op = .load t x) {n : Option Nat} {ax : AOpd} (hw : wayT P t = some n) (hx : opd x = some ax) (he : ERel ι nt e a.tmps)
    (hblk : ∀ acc, r.acc = some acc → ∀ b ∈ acc, ∀ k, h[b]? = some k → BRel P B ι w b k) (hr : aOp call e h (.load n ax) = some r) : OpOk P B ι h w o a r := by
  simp only [aOp] at hr
  have hv := opd_sound he hx
  split at hr
  · rename_i p heq
    rw [heq] at hv
    obtain ⟨l, hl, hv⟩ := hv.inv_ptr
    obtain ⟨d, i, hd, hi, rfl⟩ := wayT_spec hw
    cases hag : isAggD d
    · simp only [hag, Bool.false_eq_true, if_false, Option.map_eq_some_iff] at hr
      obtain ⟨v, hrd, rfl⟩ := hr
      obtain ⟨y, h1, h2⟩ := rd1_sound (P := P) (B := B) hrd hl (fun k hk => hblk _ rfl p.b (by simp) k hk)
      refine OpOk.pure (x := y) ?_ h2
      simp only [execOp, hop, Instr.loadAt, hv, Instr.sureAddr, Sem.run_bind, Sem.run_pure, Result.andThen_ok, loadVar, run_isAgg hd, hag, Bool.false_eq_true, if_false, run_load, h1]
    · simp only [hag, if_true, Option.map_eq_some_iff] at hr
      obtain ⟨cs, hrd, rfl⟩ := hr
      obtain ⟨hlen, vs, h1, h2⟩ := rdN_sound (P := P) (B := B) hrd hl (fun k hk => hblk _ rfl p.b (by simp) k hk)
      have hload := run_loadCells_list (P := P) w ⟨l.c, l.o + p.o, none⟩ vs h2
      rw [← h1.length, hlen] at hload
      refine OpOk.pure (x := .agg vs.toArray) ?_ (.agg h1)
      simp only [execOp, hop, Instr.loadAt, hv, Instr.sureAddr, Sem.run_bind, Sem.run_pure, Result.andThen_ok, loadVar, run_isAgg hd, hag, if_true, run_sizeOf hi, hload]
  · cases hr

theorem ok_store {t : TypeId} {x y : Operand} (hop : o.op = .store t x y) {n : Nat} {ax ay : AOpd} (hw : sizeT P t = some n) (hx : opd x = some ax) (hy : opd y = some ay) (he : ERel ι nt e a.tmps)
    (hblk : ∀ acc, r.acc = some acc → ∀ b ∈ acc, ∀ k, h[b]? = some k → BRel P B ι w b k) (hr : aOp call e h (.store n ax ay) = some r) : OpOk P B ι h w o a r := by
  simp only [aOp] at hr
  have hv := opd_sound he hx
  have hy' := cells_rel (opd_sound he hy)
  split at hr
  · rename_i p heq
    rw [heq] at hv
    obtain ⟨l, hl, hv⟩ := hv.inv_ptr
    split at hr
    · rename_i cs hb
      split at hr
      · rename_i hcond
        cases hr
        obtain ⟨i, hi, hsi⟩ := sizeT_spec hw
        obtain ⟨hg, hfit, hlen, hone⟩ := hcond
        have hbr := hblk _ rfl p.b (by simp) _ hb
        obtain ⟨h0, _⟩ := hbr l (by rw [hg]; exact hl)
        obtain ⟨w', hst, hext⟩ := store_row (P := P) (o := p.o) hb (by rw [hg]; exact hl) hbr hy' hone (by omega)
        have hln := hy'.length
        simp only [Array.length_toList] at hln
        refine ⟨ι, undef, w', ⟨_, ?_, .inr ⟨rfl, rfl⟩⟩, undef_rel _, hext⟩
        have hsz : ¬ (a.eval y).cells.size ≠ i.size := by omega
        simp only [execOp, hop, Instr.storeAt, hv, Instr.sureAddr, Sem.run_bind, Sem.run_pure, Result.andThen_ok, storeVar, run_sizeOf hi, hsz, if_false, h0, Nat.zero_add, hst]
      · cases hr
    · cases hr
  · cases hr

theorem ok_nilCheck {x : Operand} (hop : o.op = .nilCheck x) {ax : AOpd} (hx : opd x = some ax) (he : ERel ι nt e a.tmps) (hr : aOp call e h (.nilCheck ax) = some r) : OpOk P B ι h w o a r := by
  simp only [aOp] at hr
  have hv := opd_sound he hx
  split at hr
  · rename_i p heq
    cases hr
    rw [heq] at hv
    have hv0 := hv
    obtain ⟨l, hl, hv⟩ := hv.inv_ptr
    refine OpOk.pure (x := a.eval x) ?_ hv0
    simp only [execOp, hop, hv, Sem.run_bind, Sem.run_pure, Result.andThen_ok]
  · rename_i f cs heq
    cases hr
    rw [heq] at hv
    have hv0 := hv
    obtain ⟨vs, hl, hv⟩ := hv.inv_fn
    refine OpOk.pure (x := a.eval x) ?_ hv0
    simp only [execOp, hop, hv, Sem.run_bind, Sem.run_pure, Result.andThen_ok]
  · rename_i l heq
    cases hr
    rw [heq] at hv
    have hv0 := hv
    obtain ⟨lc, hl, hv⟩ := hv.inv_yld
    refine OpOk.pure (x := a.eval x) ?_ hv0
    simp only [execOp, hop, hv, Sem.run_bind, Sem.run_pure, Result.andThen_ok]
  · cases hr
end

end Go.Proofs.Ytocoadpepofbbaa.AM

/-
  THE SIMPLE OPERATIONS, second half.
-/
set_option linter.unusedVariables false
set_option linter.unusedSimpArgs false
namespace Go.Proofs.Ytocoadpepofbbaa.AM
open Go

theorem VRel.inv_slAny {ι : Emb} {x : Value} {p : Option Ad} {len : Nat} {c : Cap} (h : VRel ι (.sl p len c) x) : ∃ ad cap, x = .slice ad len cap ∧ ad.isNone = p.isNone ∧ len ≤ cap ∧ capMax len c ≤ cap := by
  cases p with
  | none =>
    obtain ⟨rfl, rfl, rfl⟩ := h.inv_slN
    exact ⟨none, 0, rfl, rfl, Nat.le_refl _, Nat.le_refl _⟩
  | some p =>
    obtain ⟨l, cap, ad, h1, h2, h3, h4, rfl⟩ := h.inv_sl
    refine ⟨some ad, cap, rfl, rfl, h2, ?_⟩
    cases c with
    | k n => simp only [CapOk] at h3; simp [capMax, h3]
    | u s => exact h2

section
variable {P : Program} {B : Nat} {ι : Emb} {h : List ABlk} {w : World} {e : List AV} {nt : Nat} {o : Oper} {a : Act} {r : OpR} {call : Tgt → List AV → List ABlk → Option Ret}

theorem run_intCmp (op : BinOp) (x y : Int) {v : AV} {b : Bool} (hv : (match op with | .eql => some (x == y) | .neq => some (x != y) | .lss => some (decide (x < y)) | .leq => some (decide (x ≤ y)) | .gtr => some (decide (x > y)) | .geq => some (decide (x ≥ y)) | _ => none) = some b) :
    (Op.intCmp op x y).run P w = .ok (.bool b) w := by
  cases op <;> simp at hv <;> subst hv <;> rfl

def plainPair : Value → Value → Bool
  | .nilIface, .nilIface => false
  | .agg _, .agg _ => false
  | _, _ => true
theorem run_guard_scalar {op : BinOp} {t : TypeId} {x y : Operand} {p q : Value} (hp : plainPair p q = true) : (eqGuard op t x y p q).run P w = .ok () w := by
  unfold eqGuard
  cases op <;> simp only [Bool.not_true, Bool.not_false, if_true, Bool.false_eq_true, if_false] <;> first
    | rfl
    | (split <;> first | (simp [plainPair] at hp; done) | rfl)

theorem bin_sound {op : BinOp} {t : TypeId} {p q v : AV} {x y : Value} (hp : VRel ι p x) (hq : VRel ι q y) (hv : aBin op p q = some v) :
    ∃ z, (binOp op t x y).run P w = .ok z w ∧ VRel ι v z ∧ plainPair x y = true := by
  unfold aBin at hv
  split at hv
  · rename_i k x' k' y'
    have := hp.inv_int; subst this
    have := hq.inv_int; subst this
    cases op
    case shl =>
      simp only at hv
      split at hv
      · cases hv
      · cases hv
        refine ⟨_, ?_, .int _ _, rfl⟩
        simp only [binOp, Op.shift]
        rw [if_neg (by assumption)]; rfl
    case shr =>
      simp only at hv
      split at hv
      · cases hv
      · cases hv
        refine ⟨_, ?_, .int _ _, rfl⟩
        simp only [binOp, Op.shift]
        rw [if_neg (by assumption)]; rfl
    all_goals
      simp only at hv
      split at hv
      · cases hv
      · rename_i hk
        have hk : k = k' := by simpa using hk
        subst hk
        first
          | (cases hv; refine ⟨_, ?_, by constructor, rfl⟩; simp only [binOp, ne_eq, not_true_eq_false, if_false]; rfl)
          | (split at hv
             · cases hv
             · rename_i h0
               cases hv
               refine ⟨_, ?_, by constructor, rfl⟩
               simp only [binOp, ne_eq, not_true_eq_false, if_false, Op.intDiv]
               rw [if_neg h0]; rfl)
          | (cases hv)
  · rename_i x' y'
    have := hp.inv_str; subst this
    have := hq.inv_str; subst this
    cases op <;> simp only [Option.some.injEq] at hv <;> first
      | (cases hv; refine ⟨_, ?_, by constructor, rfl⟩; simp only [binOp, Op.stringOp]; rfl)
      | (split at hv
         · cases hv
         · rename_i h0
           cases hv
           refine ⟨_, ?_, .str _, rfl⟩
           simp only [binOp, Op.stringOp]
           rw [if_neg h0]; rfl)
      | (cases hv)
  · cases hv

theorem binB_sound {op : BinOp} {t : TypeId} {p q v : AV} {x y : Value} (hp : VRel ι p x) (hq : VRel ι q y) (ht : P.underlying t = some .bool) (hv : aBinB op p q = some v) :
    ∃ z, (binOp op t x y).run P w = .ok z w ∧ VRel ι v z ∧ plainPair x y = true := by
  unfold aBinB at hv
  split at hv
  · rename_i x' y'
    have := hp.inv_bool; subst this
    have := hq.inv_bool; subst this
    have hb : ∀ d, (Op.equalIn (d + 1) t (.bool x') (.bool y')).run P w = .ok (x' == y') w := fun d => by
      simp only [Op.equalIn, Sem.run_bind, run_underlying ht, Result.andThen_ok, Sem.run_pure]
    cases op <;> simp only [Option.some.injEq] at hv <;> first
      | (cases hv; refine ⟨_, ?_, .bool _, rfl⟩; simp only [binOp, Op.equal, Op.maxDepth, Sem.run_bind, hb 9999, Result.andThen_ok, Sem.run_pure])
      | (cases hv)
  · cases hv

theorem ok_bin {op : BinOp} {t u : TypeId} {x y : Operand} (hop : o.op = .binOp op t x y u) {ax ay : AOpd} (hx : opd x = some ax) (hy : opd y = some ay) (he : ERel ι nt e a.tmps)
    (hr : aOp call e h (.bin op ax ay) = some r) : OpOk P B ι h w o a r := by
  simp only [aOp, Option.map_eq_some_iff] at hr
  obtain ⟨v, hv, rfl⟩ := hr
  obtain ⟨z, h1, h2, h3⟩ := bin_sound (P := P) (w := w) (t := t) (opd_sound he hx) (opd_sound he hy) hv
  refine OpOk.pure (x := z) ?_ h2
  simp only [execOp, hop, Sem.run_bind, run_guard_scalar h3, Result.andThen_ok, h1, Sem.run_pure]

theorem ok_binB {op : BinOp} {t u : TypeId} {x y : Operand} (hop : o.op = .binOp op t x y u) (ht : P.underlying t = some .bool) {ax ay : AOpd} (hx : opd x = some ax) (hy : opd y = some ay) (he : ERel ι nt e a.tmps)
    (hr : aOp call e h (.binB op ax ay) = some r) : OpOk P B ι h w o a r := by
  simp only [aOp, Option.map_eq_some_iff] at hr
  obtain ⟨v, hv, rfl⟩ := hr
  obtain ⟨z, h1, h2, h3⟩ := binB_sound (P := P) (w := w) (opd_sound he hx) (opd_sound he hy) ht hv
  refine OpOk.pure (x := z) ?_ h2
  simp only [execOp, hop, Sem.run_bind, run_guard_scalar h3, Result.andThen_ok, h1, Sem.run_pure]

theorem ok_isNil {ne : Bool} {t u el : TypeId} {x y : Operand} (hop : o.op = .binOp (if ne then .neq else .eql) t x y u) (ht : P.underlying t = some (.slice el)) {ax : AOpd} (hx : opd x = some ax) (hy : opd y = some (.c nilSl)) (he : ERel ι nt e a.tmps)
    (hr : aOp call e h (.isNil ne ax) = some r) : OpOk P B ι h w o a r := by
  simp only [aOp] at hr
  split at hr
  · rename_i p len c heq
    cases hr
    have hv := opd_sound he hx
    rw [heq] at hv
    obtain ⟨ad, cap, hv, hnil, _⟩ := hv.inv_slAny
    have hy' : VRel ι nilSl (a.eval y) := opd_sound he hy
    obtain ⟨_, _, hy'⟩ := (show VRel ι (.sl none 0 (.k 0)) (a.eval y) from hy').inv_slN
    have hE : ∀ d, (Op.equalIn (d + 1) t (.slice ad len cap) (.slice none 0 0)).run P w = .ok ad.isNone w := fun d => by
      cases ad <;> simp only [Op.equalIn, Sem.run_bind, run_underlying ht, Result.andThen_ok, Sem.run_pure] <;> rfl
    refine OpOk.pure (x := .bool (if ne then !p.isNone else p.isNone)) ?_ (.bool _)
    have hg : (eqGuard (if ne then .neq else .eql) t x y (.slice ad len cap) (.slice none 0 0)).run P w = .ok () w := run_guard_scalar rfl
    simp only [execOp, hop, hv, hy', Sem.run_bind, hg, Result.andThen_ok, Sem.run_pure]
    cases ne <;> simp only [binOp, if_true, Bool.false_eq_true, if_false, Op.equal, Op.maxDepth, Sem.run_bind, hE 9999, Result.andThen_ok, Sem.run_pure, hnil]
  · cases hr

theorem ok_un {op : UnOp} {t : TypeId} {x : Operand} (hop : o.op = .unOp op t x) {ax : AOpd} (hx : opd x = some ax) (he : ERel ι nt e a.tmps) (hr : aOp call e h (.un op ax) = some r) : OpOk P B ι h w o a r := by
  simp only [aOp, Option.map_eq_some_iff] at hr
  obtain ⟨v, hv, rfl⟩ := hr
  have hx' := opd_sound he hx
  unfold aUn at hv
  split at hv
  · rename_i k n heq
    rw [heq] at hx'
    have hx' := hx'.inv_int
    cases op <;> simp only [Option.some.injEq] at hv <;> first
      | (cases hv; refine OpOk.pure (x := .int k (k.wrap (0 - n))) ?_ (.int _ _); simp only [execOp, hop, hx', Op.unary, Op.intArith, Sem.run_bind, Sem.run_pure, Result.andThen_ok])
      | cases hv
  · rename_i b heq
    rw [heq] at hx'
    have hx' := hx'.inv_bool
    cases op <;> simp only [Option.some.injEq] at hv <;> first
      | (cases hv; refine OpOk.pure (x := .bool (!b)) ?_ (.bool _); simp only [execOp, hop, hx', Op.unary, Sem.run_bind, Sem.run_pure, Result.andThen_ok])
      | cases hv
  · cases hv

theorem ok_conv {s d : TypeId} {x : Operand} (hop : o.op = .convert s d x) {k0 k : IntKind} (hs : P.underlying s = some (.int k0)) (hd : P.underlying d = some (.int k)) {ax : AOpd} (hx : opd x = some ax) (he : ERel ι nt e a.tmps)
    (hr : aOp call e h (.conv k ax) = some r) : OpOk P B ι h w o a r := by
  simp only [aOp] at hr
  split at hr
  · rename_i k1 n heq
    cases hr
    have hv := opd_sound he hx
    rw [heq] at hv
    have hv := hv.inv_int
    refine OpOk.pure (x := .int k (k.wrap n)) ?_ (.int _ _)
    simp only [execOp, hop, hv, convert, Sem.run_bind, run_underlying hs, run_underlying hd, Result.andThen_ok, Conv.intToInt, Sem.run_pure]
  · cases hr

theorem bytes_of {ι : Emb} : ∀ {cs : List AV} {vs : List Value} {bs : List UInt8}, VRelL ι cs vs → cs.mapM (fun | .int .u8 n => some (UInt8.ofNat n.toNat) | _ => none) = some bs →
    ∃ ns : List Int, vs = ns.map (Value.int .u8) ∧ bs = ns.map fun n => UInt8.ofNat n.toNat
  | _, _, bs, .nil, hb => by simp at hb; subst hb; exact ⟨[], rfl, rfl⟩
  | _, _, bs, .cons (c := c) (v := v) (cs := cs) hv ht, hb => by
    simp only [List.mapM_cons, Option.bind_eq_bind, Option.bind_eq_some_iff, Option.pure_def, Option.some.injEq] at hb
    obtain ⟨x, hx, ys, hys, rfl⟩ := hb
    obtain ⟨ns, rfl, rfl⟩ := bytes_of ht hys
    split at hx
    · rename_i n
      cases hx
      have := hv.inv_int; subst this
      exact ⟨n :: ns, rfl, rfl⟩
    · cases hx

theorem foldl_push : ∀ (ns : List Int) (b : ByteArray), ns.foldl (fun r n => r.push (UInt8.ofNat n.toNat)) b = ⟨b.data ++ (ns.map fun n => UInt8.ofNat n.toNat).toArray⟩
  | [], b => by simp
  | n :: ns, b => by
    rw [List.foldl_cons, foldl_push ns]
    show ByteArray.mk (b.data.push (UInt8.ofNat n.toNat) ++ _) = _
    congr 1
    apply Array.ext'
    simp

theorem ok_bytesStr {s d el : TypeId} {x : Operand} (hop : o.op = .convert s d x) (hs : P.underlying s = some (.slice el)) (hel : P.underlying el = some (.int .u8)) (hd : P.underlying d = some .string) {ax : AOpd} (hx : opd x = some ax) (he : ERel ι nt e a.tmps)
    (hblk : ∀ acc, r.acc = some acc → ∀ b ∈ acc, ∀ k, h[b]? = some k → BRel P B ι w b k) (hr : aOp call e h (.bytesStr ax) = some r) : OpOk P B ι h w o a r := by
  simp only [aOp] at hr
  have hv := opd_sound he hx
  split at hr
  · rename_i len c heq
    cases hr
    rw [heq] at hv
    obtain ⟨_, _, hv⟩ := hv.inv_slN
    refine OpOk.pure (x := .string .empty) ?_ (.str _)
    simp only [execOp, hop, hv, Sem.run_bind, run_convert_bytes_string (P := P) w s d el none 0 0 hs hel hd, Conv.bytesToString, Sem.run_pure, Result.andThen_ok]
  · rename_i p len c heq
    rw [heq] at hv
    obtain ⟨l, cap, ad, hl, hle, _, had, hv⟩ := hv.inv_sl
    split at hr
    · rename_i cs hrd
      split at hr
      · rename_i bs hbs
        cases hr
        obtain ⟨hlen, vs, h1, h2⟩ := rdN_sound (P := P) (B := B) hrd hl (fun k hk => hblk _ rfl p.b (by simp) k hk)
        obtain ⟨ns, rfl, rfl⟩ := bytes_of h1 hbs
        have hcells := h1.length
        have hload : (loadCells ad len).run P w = .ok (ns.map (Value.int .u8)).toArray w := by
          have := run_loadCells_list (P := P) w ⟨l.c, l.o + p.o, none⟩ _ h2
          rw [← hcells, hlen] at this
          rcases Nat.eq_zero_or_pos cap with h0 | h0
          · have : len = 0 := by omega
            subst this
            have : ns = [] := by
              have := hcells
              simp only [List.length_map] at this
              exact List.eq_nil_of_length_eq_zero (by omega)
            subst this
            rfl
          · rw [had h0]; exact this
        refine OpOk.pure (x := .string ⟨(ns.map fun n => UInt8.ofNat n.toNat).toArray⟩) ?_ (.str _)
        have hb := run_bytesToString (P := P) w ad len cap ns hload
        rw [foldl_push] at hb
        simp only [execOp, hop, hv, Sem.run_bind, run_convert_bytes_string (P := P) w s d el (some ad) len cap hs hel hd, hb, Sem.run_pure, Result.andThen_ok]
        rw [show ByteArray.empty.data = #[] from rfl, Array.empty_append]
      · cases hr
    · cases hr
  · cases hr

theorem ok_mkFn {f : FuncId} {first cap : Array Operand} (hop : o.op = .makeFunc (.func f) first cap) (h0 : first.size = 0) {as : List AOpd} (hx : opds cap.toList = some as) (he : ERel ι nt e a.tmps)
    (hr : aOp call e h (.mkFn f as) = some r) : OpOk P B ι h w o a r := by
  simp only [aOp, Option.some.injEq] at hr; subst hr
  have hv := opds_sound he hx
  have hf : first = #[] := Array.eq_empty_of_size_eq_zero h0
  refine OpOk.pure (x := .func (.func f) #[] (cap.toList.map a.eval).toArray) ?_ (.fn hv)
  simp only [execOp, hop, hf, Instr.makeFunc, Sem.run_bind, Sem.run_pure, Result.andThen_ok]
  have : Array.map a.eval cap = (List.map a.eval cap.toList).toArray := by apply Array.ext'; simp
  simp [this]

theorem ok_mkMap {t : TypeId} {ag : Bool} {ks : List (Option IntKind)} (hop : o.op = .makeMap t none) (hn : ∀ g, ι h.length g = none) (hB : B ≤ w.heap.size) (hr : aOp call e h (.mkMap ag ks) = some r) : OpOk P B ι h w o a r := by
  simp only [aOp, Option.some.injEq] at hr; subst hr
  refine ⟨_, .map (some w.heap.size), w.alloc (.map #[] 0), ⟨_, ?_, .inl rfl⟩, .map (l := ⟨w.heap.size, 0, 0⟩) ?_,
    Ext.push (k := .map ag ks []) (l := ⟨w.heap.size, 0, 0⟩) (hn _) (misc_alloc _ _) (Nat.le_refl _) (by simp) (fun c hc => heap_alloc_lt _ _ hc) rfl ?_⟩
  · simp only [execOp, hop, Option.map_none, Instr.makeMap, Sem.run_bind, Sem.run_pure, Result.andThen_ok, run_newObj_alloc]
  · exact upd_same _ _ _ _
  · intro l hl
    rw [show bgen (.map ag ks []) = 0 from rfl, upd_same] at hl
    cases hl
    exact ⟨hB, rfl, #[], 0, heap_alloc_at _ _, .nil⟩

theorem ok_mkSl {t el : TypeId} {x y : Operand} (hop : o.op = .makeSlice t x y) (ht : P.underlying t = some (.slice el)) {i : TypeInfo} (hi : P.info? el = some i) {z : List AV} (hz : zeroT P el = some z) (hc : z.length = i.size ∧ 0 < i.size)
    {ax ay : AOpd} (hx : opd x = some ax) (hy : opd y = some ay) (he : ERel ι nt e a.tmps) (hn : ∀ g, ι h.length g = none) (hB : B ≤ w.heap.size) (hr : aOp call e h (.mkSl z i.bytes ax ay) = some r) : OpOk P B ι h w o a r := by
  simp only [aOp] at hr
  have hx' := opd_sound he hx
  have hy' := opd_sound he hy
  split at hr
  · rename_i k l k' c heq heq'
    rw [heq] at hx'
    rw [heq'] at hy'
    have hx' := hx'.inv_int
    have hy' := hy'.inv_int
    obtain ⟨it, zv, hi', hz', hrel⟩ := zeroT_spec hz
    rw [hi] at hi'; cases hi'
    split at hr
    · rename_i hcond
      cases hr
      obtain ⟨h0, h1, h2⟩ := hcond
      have hwr : ∀ n : Int, IntKind.i64.wrap (IntKind.i64.wrap n) = IntKind.i64.wrap n := fun n => by simp only [IntKind.wrap, IntKind.signed, IntKind.bits]; simp; omega
      have hmx : IntKind.i64.wrap c ≤ 9223372036854775807 := by simp only [IntKind.wrap, IntKind.signed, IntKind.bits]; simp; omega
      have hrun := run_make (P := P) w t el i zv ht hi hz' k k' (IntKind.i64.wrap l) (IntKind.i64.wrap c) h0 h1 (by simpa using h2) hmx
      have hrun' : (Instr.makeSlice t (.int k l) (.int k' c)).run P w = (Instr.makeSlice t (.int k (IntKind.i64.wrap l)) (.int k' (IntKind.i64.wrap c))).run P w := by
        have hneg : (l < 0) = (IntKind.i64.wrap l < 0) ∨ True := .inr trivial
        have n1 : ¬ IntKind.i64.wrap l < 0 := by omega
        have n2 : ¬ IntKind.i64.wrap c < IntKind.i64.wrap l := by omega
        have n3 : ¬ IntKind.i64.wrap c < 0 := by omega
        have n4 : ¬ (281474976710656 < (i.bytes : Int) * IntKind.i64.wrap c) := by omega
        simp [Instr.makeSlice, run_underlying ht, asInt, asIntOf, typeInfo, hi, hwr, n1, n2, n3, n4]
      have hrel' := madeCells_rel (hrel ι) (by omega) (IntKind.i64.wrap c).toNat
      have hlen : (List.replicate (IntKind.i64.wrap c).toNat z).flatten.length = (IntKind.i64.wrap c).toNat * z.length := by simp
      refine ⟨_, .slice (some ⟨w.heap.size, 0, none⟩) (IntKind.i64.wrap l).toNat (IntKind.i64.wrap c).toNat, w.alloc (.cells (madeCells zv.cells ((IntKind.i64.wrap c).toNat * i.size)) el), ⟨_, ?_, .inl rfl⟩,
        .sl (l := ⟨w.heap.size, 0, (madeCells zv.cells ((IntKind.i64.wrap c).toNat * i.size)).size⟩) ?_ (by omega) rfl (fun _ => rfl), ext_row hn hB hlen.symm rfl fun ι' hs => ?_⟩
      · simp only [execOp, hop, hx', hy', Sem.run_bind, hrun', hrun, Result.andThen_ok, Sem.run_pure]
      · exact upd_same _ _ _ _
      · rw [← hc.1]
        exact (hrel'.mono hs).rowR
    · cases hr
  · cases hr

theorem asN_sound {v : AV} {x : Value} (hv : VRel ι v x) {n : Nat} (hn : asN v = some n) : ∃ k, x = .int k n := by
  unfold asN at hn
  split at hn
  · rename_i k m
    split at hn
    · cases hn
      have := hv.inv_int; subst this
      exact ⟨k, by rw [Int.toNat_of_nonneg (by assumption)]⟩
    · cases hn
  · cases hn
theorem bound_run {k : IntKind} {n y : Nat} (hle : n ≤ y) (code : BoundsCode) : (Instr.sliceBound (.int k n) y code).run P w = .ok n w := by
  unfold Instr.sliceBound
  simp only [asIntOf, Sem.run_bind, Sem.run_pure, Result.andThen_ok]
  rw [if_pos (by omega)]
  simp
theorem bounds_run {isS : Bool} {len cap l k : Nat} {lo hi : Option Value} (hlo : (lo = none ∧ l = 0) ∨ ∃ kk : IntKind, lo = some (.int kk l)) (hhi : (hi = none ∧ k = len) ∨ ∃ kk : IntKind, hi = some (.int kk k))
    (h1 : l ≤ k) (h2 : k ≤ cap) : (Instr.sliceBounds isS len cap lo hi none).run P w = .ok (l, k, cap) w := by
  rcases hlo with ⟨rfl, rfl⟩ | ⟨kl, rfl⟩ <;> rcases hhi with ⟨rfl, rfl⟩ | ⟨kh, rfl⟩
  · simp [Instr.sliceBounds]
  · simp [Instr.sliceBounds, bound_run h2]
  · simp [Instr.sliceBounds, bound_run h1]
  · simp [Instr.sliceBounds, bound_run h1, bound_run h2]
theorem bound_of {x : Option Operand} {ax : Option AOpd} (hx : opdO x = some ax) (he : ERel ι nt e a.tmps) {d n : Nat} (hb : aBound e d ax = some n) :
    (x.map a.eval = none ∧ n = d) ∨ ∃ kk : IntKind, x.map a.eval = some (.int kk n) := by
  cases x with
  | none =>
    simp only [opdO, Option.some.injEq] at hx; subst hx
    simp only [aBound, Option.some.injEq] at hb
    exact .inl ⟨rfl, hb.symm⟩
  | some x =>
    simp only [opdO, Option.map_eq_some_iff] at hx
    obtain ⟨ax, hax, rfl⟩ := hx
    obtain ⟨k, hk⟩ := asN_sound (opd_sound he hax) hb
    exact .inr ⟨k, by simp [hk]⟩

theorem slice_val {p : Option Ad} {len cap l k size : Nat} {c c' : Cap} {ad : Option Addr} {x : Value} (hv : VRel ι (.sl p len c) (.slice ad len cap)) (h1 : l ≤ k) (h2 : k ≤ cap)
    (hc : ∀ (lc : Loc) (q : Ad), CapOk lc q cap c → CapOk lc { q with o := q.o + l * size } (cap - l) c') (h0 : c = .k 0 → l = 0 → c' = .k 0) :
    VRel ι (.sl (p.map fun q => { q with o := q.o + l * size }) (k - l) c') (.slice (if cap = l then ad else ad.map (·.add (l * size))) (k - l) (cap - l)) := by
  cases p with
  | none =>
    obtain ⟨rfl, rfl, hx⟩ := hv.inv_slN
    cases hx
    have : l = 0 := by omega
    subst this
    have : k = 0 := by omega
    subst this
    rw [h0 rfl rfl]
    exact .slN
  | some q =>
    obtain ⟨lc, cap', ad', g1, g2, g3, g4, hx⟩ := hv.inv_sl
    cases hx
    simp only [Option.map_some]
    have : (if cap = l then some ad' else some (ad'.add (l * size))) = some (if cap = l then ad' else ad'.add (l * size)) := by split <;> rfl
    rw [this]
    refine .sl g1 (by omega) (hc lc q g3) fun hpos => ?_
    rw [if_neg (by omega), g4 (by omega), add_plain]
    simp [Nat.add_assoc]

theorem ok_slice {t el : TypeId} {x : Operand} {lo hi : Option Operand} (hop : o.op = .slice t x lo hi none) (ht : P.underlying t = some (.slice el)) {s : Nat} (hs : sizeT P el = some s) {ax : AOpd} {alo ahi : Option AOpd} (hx : opd x = some ax)
    (hlo : opdO lo = some alo) (hhi : opdO hi = some ahi) (he : ERel ι nt e a.tmps) (hr : aOp call e h (.slice s ax alo ahi) = some r) : OpOk P B ι h w o a r := by
  simp only [aOp] at hr
  have hv := opd_sound he hx
  obtain ⟨i, hi', hsi⟩ := sizeT_spec hs
  split at hr
  · rename_i p len c heq
    rw [heq] at hv
    obtain ⟨ad, cap, hx', hnil, hle, hcm⟩ := hv.inv_slAny
    split at hr
    · rename_i l k hl hk
      split at hr
      · rename_i hcond
        split at hr
        · rename_i c' hc'
          cases hr
          have hb := bounds_run (P := P) (w := w) (isS := true) (bound_of hlo he hl) (bound_of hhi he hk) hcond.1 (Nat.le_trans hcond.2 hcm)
          rw [hx'] at hv
          refine OpOk.pure (x := .slice (if cap = l then ad else ad.map (·.add (l * s))) (k - l) (cap - l)) ?_ (slice_val (x := .nilIface) hv hcond.1 (Nat.le_trans hcond.2 hcm) ?_ ?_)
          · have hsz : (sizeOf el).run P w = .ok s w := by rw [← hsi]; exact run_sizeOf hi' w
            simp only [execOp, hop, hx', Instr.sliceAt, Instr.slice, Sem.run_bind, run_underlying ht, Result.andThen_ok, Option.map_none, hb, hsz, Sem.run_pure]
          · intro lc q hcap
            cases c with
            | k n =>
              simp only [capCut, Option.some.injEq] at hc'; subst hc'
              simp only [CapOk] at hcap ⊢
              omega
            | u s' =>
              simp only [capCut] at hc'
              split at hc'
              · rename_i hs'
                cases hc'
                simp only [CapOk] at hcap ⊢
                rcases hs' with h0 | h0
                · exact .inl h0
                · subst h0
                  rcases hcap with hcap | hcap
                  · exact .inl hcap
                  · refine .inr ?_
                    have : l ≤ cap := by omega
                    have h3 : l * s' + (cap - l) * s' = cap * s' := by rw [← Nat.add_mul]; congr 1; omega
                    omega
              · cases hc'
          · intro h0 h1
            subst h0; subst h1
            simp only [capCut, Option.some.injEq] at hc'
            exact hc'.symm
        · cases hr
      · cases hr
    · cases hr
  · cases hr

theorem ok_sliceS {t : TypeId} {x : Operand} {lo hi : Option Operand} (hop : o.op = .slice t x lo hi none) (ht : P.underlying t = some .string) {ax : AOpd} {alo ahi : Option AOpd} (hx : opd x = some ax)
    (hlo : opdO lo = some alo) (hhi : opdO hi = some ahi) (he : ERel ι nt e a.tmps) (hr : aOp call e h (.sliceS ax alo ahi) = some r) : OpOk P B ι h w o a r := by
  simp only [aOp] at hr
  have hv := opd_sound he hx
  split at hr
  · rename_i s heq
    rw [heq] at hv
    have hv := hv.inv_str
    split at hr
    · rename_i l k hl hk
      split at hr
      · rename_i hcond
        cases hr
        have hb := bounds_run (P := P) (w := w) (isS := false) (bound_of hlo he hl) (bound_of hhi he hk) hcond.1 hcond.2
        refine OpOk.pure (x := .string (s.extract l k)) ?_ (.str _)
        simp [execOp, hop, hv, Instr.sliceAt, Instr.slice, run_underlying ht, hb]
      · cases hr
    · cases hr
  · cases hr

theorem ok_slice3 {t el : TypeId} {x m : Operand} {lo : Option Operand} {hi : Operand} (hop : o.op = .slice t x lo (some hi) (some m)) (ht : P.underlying t = some (.slice el)) {s : Nat} (hs : sizeT P el = some s) {ax ahi am : AOpd} {alo : Option AOpd} (hx : opd x = some ax)
    (hlo : opdO lo = some alo) (hhi : opd hi = some ahi) (hm : opd m = some am) (he : ERel ι nt e a.tmps) (hr : aOp call e h (.slice3 s ax alo (some ahi) am) = some r) : OpOk P B ι h w o a r := by
  simp only [aOp] at hr
  have hv := opd_sound he hx
  obtain ⟨i, hi', hsi⟩ := sizeT_spec hs
  split at hr
  · rename_i p len c heq
    rw [heq] at hv
    obtain ⟨ad, cap, hx', hnil, hle, hcm⟩ := hv.inv_slAny
    split at hr
    · rename_i l k mm hl hk hmm
      split at hr
      · rename_i hcond
        cases hr
        obtain ⟨hc1, hc2, hc3⟩ := hcond
        obtain ⟨kk, hk'⟩ := asN_sound (opd_sound he hhi) hk
        obtain ⟨km, hm'⟩ := asN_sound (opd_sound he hm) hmm
        have hb : (Instr.sliceBounds true len cap (lo.map a.eval) (some (a.eval hi)) (some (a.eval m))).run P w = .ok (l, k, mm) w := by
          rcases bound_of hlo he hl with ⟨h1, rfl⟩ | ⟨kl, h1⟩
          · simp [Instr.sliceBounds, h1, hk', hm', bound_run hc2, bound_run (Nat.le_trans hc3 hcm)]
          · simp [Instr.sliceBounds, h1, hk', hm', bound_run hc1, bound_run hc2, bound_run (Nat.le_trans hc3 hcm)]
        refine OpOk.pure (x := .slice (if mm = l then ad else ad.map (·.add (l * s))) (k - l) (mm - l)) ?_ ?_
        · have hsz : (sizeOf el).run P w = .ok s w := by rw [← hsi]; exact run_sizeOf hi' w
          simp only [execOp, hop, hx', Instr.sliceAt, Instr.slice, Sem.run_bind, run_underlying ht, Result.andThen_ok, Option.map_some, hb, hsz, Sem.run_pure]
        · rw [hx'] at hv
          cases p with
          | none =>
            obtain ⟨rfl, rfl, hx⟩ := hv.inv_slN
            cases hx
            simp only [capMax] at hc3
            have : l = 0 := by omega
            subst this
            have : k = 0 := by omega
            subst this
            have : mm = 0 := by omega
            subst this
            exact .slN
          | some q =>
            obtain ⟨lc, cap', ad', g1, g2, g3, g4, hx⟩ := hv.inv_sl
            cases hx
            simp only [Option.map_some]
            have : (if mm = l then some ad' else some (ad'.add (l * s))) = some (if mm = l then ad' else ad'.add (l * s)) := by split <;> rfl
            rw [this]
            refine .sl g1 (by omega) rfl fun hpos => ?_
            rw [if_neg (by omega), g4 (by omega), add_plain]
            simp [Nat.add_assoc]
      · cases hr
    · cases hr
  · cases hr

theorem ok_sliceA {t el : TypeId} {n : Nat} {x : Operand} (hop : o.op = .slice t x none none none) (ht : P.underlying t = some (.array n el)) {s : Nat} (hs : sizeT P el = some s) {ax : AOpd} (hx : opd x = some ax)
    (he : ERel ι nt e a.tmps) (hr : aOp call e h (.sliceA n s ax) = some r) : OpOk P B ι h w o a r := by
  simp only [aOp] at hr
  have hv := opd_sound he hx
  obtain ⟨i, hi', hsi⟩ := sizeT_spec hs
  split at hr
  · rename_i p heq
    rw [heq] at hv
    obtain ⟨l, hl, hv⟩ := hv.inv_ptr
    split at hr
    · rename_i hcond
      cases hr
      refine OpOk.pure (x := .slice (some ⟨l.c, l.o + p.o, none⟩) n n) ?_ (.sl hl (Nat.le_refl _) rfl (fun _ => rfl))
      have hb := bounds_run (P := P) (w := w) (isS := false) (len := n) (cap := n) (l := 0) (k := n) (lo := none) (hi := none) (.inl ⟨rfl, rfl⟩) (.inl ⟨rfl, rfl⟩) (Nat.zero_le _) (Nat.le_refl _)
      simp only [execOp, hop, hv, Instr.sliceAt, Sem.run_bind, run_underlying ht, Result.andThen_ok, Option.map_none, Instr.sureAddr, Sem.run_pure, hb, run_sizeOf hi']
      simp [add_plain]
    · cases hr
  · cases hr

theorem ok_fieldAddr {t : TypeId} {fs : Array Field} {f : Nat} {fd : Field} {x : Operand} (hop : o.op = .fieldAddr t x f) (ht : P.underlying t = some (.struct fs)) (hf : fs[f]? = some fd) {n : Nat} (hs : sizeT P fd.type = some n) (h0 : n ≠ 0) {ax : AOpd} (hx : opd x = some ax)
    (he : ERel ι nt e a.tmps) (hr : aOp call e h (.fieldAddr fd.offset ax) = some r) : OpOk P B ι h w o a r := by
  simp only [aOp] at hr
  have hv := opd_sound he hx
  obtain ⟨i, hi', hsi⟩ := sizeT_spec hs
  split at hr
  · rename_i p heq
    cases hr
    rw [heq] at hv
    obtain ⟨l, hl, hv⟩ := hv.inv_ptr
    refine OpOk.pure (x := .pointer (some ⟨l.c, l.o + (p.o + fd.offset), none⟩)) ?_ (.ptr hl)
    simp only [execOp, hop, hv, Instr.fieldAt, Sem.run_bind, run_underlying ht, Result.andThen_ok, hf, Instr.sureAddr, Sem.run_pure, fieldPlace, run_sizeOf hi']
    rw [if_neg (by omega)]
    simp only [Sem.run_pure, Result.andThen_ok, add_plain, Nat.add_assoc]
  · cases hr

theorem ok_field {t : TypeId} {fs : Array Field} {f : Nat} {fd : Field} {x : Operand} (hop : o.op = .field t x f) (ht : P.underlying t = some (.struct fs)) (hf : fs[f]? = some fd) {n : Option Nat} (hw : wayT P fd.type = some n) {ax : AOpd} (hx : opd x = some ax)
    (he : ERel ι nt e a.tmps) (hr : aOp call e h (.field n fd.offset ax) = some r) : OpOk P B ι h w o a r := by
  simp only [aOp] at hr
  have hv := opd_sound he hx
  split at hr
  · rename_i cs heq
    simp only [Option.map_eq_some_iff] at hr
    obtain ⟨v, hp, rfl⟩ := hr
    rw [heq] at hv
    obtain ⟨vs, hl, hv⟩ := hv.inv_agg
    obtain ⟨y, h1, h2⟩ := part_sound hw hl hp w
    refine OpOk.pure (x := y) ?_ h2
    simp only [execOp, hop, hv, Instr.field, Sem.run_bind, run_underlying ht, Result.andThen_ok, hf, asAgg, Sem.run_pure, h1]
  · cases hr

theorem ok_idxArr {t el : TypeId} {n : Nat} {x y : Operand} (hop : o.op = .indexAddr t x y) (ht : P.underlying t = some (.array n el)) {s : Nat} (hs : sizeT P el = some s) {ax ay : AOpd} (hx : opd x = some ax) (hy : opd y = some ay)
    (he : ERel ι nt e a.tmps) (hr : aOp call e h (.idxArr n s ax ay) = some r) : OpOk P B ι h w o a r := by
  simp only [aOp] at hr
  have hv := opd_sound he hx
  have hv' := opd_sound he hy
  obtain ⟨i, hi', hsi⟩ := sizeT_spec hs
  split at hr
  · rename_i p k j heq heq'
    rw [heq] at hv
    rw [heq'] at hv'
    obtain ⟨l, hl, hv⟩ := hv.inv_ptr
    have hv' := hv'.inv_int
    split at hr
    · rename_i hcond
      cases hr
      refine OpOk.pure (x := .pointer (some ⟨l.c, l.o + (p.o + j.toNat * s), none⟩)) ?_ (.ptr hl)
      have hsz : (sizeOf el).run P w = .ok s w := by rw [← hsi]; exact run_sizeOf hi' w
      simp [execOp, hop, hv, hv', Instr.indexAt, asIntOf, run_underlying ht, Instr.sureAddr, hcond, hsz, add_plain, Nat.add_assoc]
    · cases hr
  · cases hr

theorem ok_idxSl {t el : TypeId} {x y : Operand} (hop : o.op = .indexAddr t x y) (ht : P.underlying t = some (.slice el)) {s : Nat} (hs : sizeT P el = some s) {ax ay : AOpd} (hx : opd x = some ax) (hy : opd y = some ay)
    (he : ERel ι nt e a.tmps) (hr : aOp call e h (.idxSl s ax ay) = some r) : OpOk P B ι h w o a r := by
  simp only [aOp] at hr
  have hv := opd_sound he hx
  have hv' := opd_sound he hy
  obtain ⟨i, hi', hsi⟩ := sizeT_spec hs
  split at hr
  · rename_i p len c k j heq heq'
    rw [heq] at hv
    rw [heq'] at hv'
    obtain ⟨l, cap, ad, hl, hle, _, had, hv⟩ := hv.inv_sl
    have hv' := hv'.inv_int
    split at hr
    · rename_i hcond
      cases hr
      refine OpOk.pure (x := .pointer (some ⟨l.c, l.o + (p.o + j.toNat * s), none⟩)) ?_ (.ptr hl)
      have hsz : (sizeOf el).run P w = .ok s w := by rw [← hsi]; exact run_sizeOf hi' w
      have had' := had (by omega)
      simp [execOp, hop, hv, hv', Instr.indexAt, asIntOf, run_underlying ht, hcond, hsz, had', add_plain, Nat.add_assoc]
    · cases hr
  · cases hr

theorem ok_index {t el : TypeId} {n : Nat} {x y : Operand} (hop : o.op = .index t x y) (ht : P.underlying t = some (.array n el)) {s : Nat} (hs : sizeT P el = some s) {wy : Option Nat} (hw : wayT P el = some wy) {ax ay : AOpd} (hx : opd x = some ax) (hy : opd y = some ay)
    (he : ERel ι nt e a.tmps) (hr : aOp call e h (.index n s wy ax ay) = some r) : OpOk P B ι h w o a r := by
  simp only [aOp] at hr
  have hv := opd_sound he hx
  have hv' := opd_sound he hy
  obtain ⟨i, hi', hsi⟩ := sizeT_spec hs
  split at hr
  · rename_i cs k j heq heq'
    rw [heq] at hv
    rw [heq'] at hv'
    obtain ⟨vs, hl, hv⟩ := hv.inv_agg
    have hv' := hv'.inv_int
    split at hr
    · rename_i hcond
      simp only [Option.map_eq_some_iff] at hr
      obtain ⟨v, hp, rfl⟩ := hr
      obtain ⟨z, h1, h2⟩ := part_sound hw hl hp w
      refine OpOk.pure (x := z) ?_ h2
      have hsz : (sizeOf el).run P w = .ok s w := by rw [← hsi]; exact run_sizeOf hi' w
      simp [execOp, hop, hv, hv', Instr.index, asIntOf, run_underlying ht, hcond, hsz, h1]
    · cases hr
  · cases hr

theorem ok_indexS {t : TypeId} {x y : Operand} (hop : o.op = .index t x y) (ht : P.underlying t = some .string) {ax ay : AOpd} (hx : opd x = some ax) (hy : opd y = some ay)
    (he : ERel ι nt e a.tmps) (hr : aOp call e h (.indexS ax ay) = some r) : OpOk P B ι h w o a r := by
  simp only [aOp] at hr
  have hv := opd_sound he hx
  have hv' := opd_sound he hy
  split at hr
  · rename_i s k j heq heq'
    rw [heq] at hv
    rw [heq'] at hv'
    have hv := hv.inv_str
    have hv' := hv'.inv_int
    split at hr
    · rename_i b hb
      cases hr
      refine OpOk.pure (x := .int .u8 b.toNat) ?_ (.int _ _)
      simp only [execOp, hop, hv, hv', Instr.index, asIntOf, Sem.run_bind, Sem.run_pure, Result.andThen_ok, run_underlying ht, hb]
    · cases hr
  · cases hr

theorem ok_extract {x : Operand} {i : Nat} (hop : o.op = .extract x i) {ax : AOpd} (hx : opd x = some ax) (he : ERel ι nt e a.tmps) (hr : aOp call e h (.extract ax i) = some r) : OpOk P B ι h w o a r := by
  simp only [aOp] at hr
  have hv := opd_sound he hx
  split at hr
  · rename_i vs heq
    simp only [Option.map_eq_some_iff] at hr
    obtain ⟨v, hp, rfl⟩ := hr
    rw [heq] at hv
    obtain ⟨xs, hl, hv⟩ := hv.inv_tup
    obtain ⟨y, h1, h2⟩ := hl.get hp
    refine OpOk.pure (x := y) ?_ h2
    simp [execOp, hop, hv, Instr.extract, h1]
  · cases hr

theorem ok_len {c : Call} {x : Operand} {t el : TypeId} (hop : o.op = .call c) (hc : c.callee = .builtin .len) (hargs : c.args.toList = [x]) (hts : c.argTypes.toList = [t]) (ht : P.underlying t = some (.slice el))
    {ax : AOpd} (hx : opd x = some ax) (he : ERel ι nt e a.tmps) (hr : aOp call e h (.len ax) = some r) : OpOk P B ι h w o a r := by
  simp only [aOp] at hr
  have hv := opd_sound he hx
  have ha : c.args = #[x] := Array.ext' hargs
  have hts' : c.argTypes = #[t] := Array.ext' hts
  split at hr
  · rename_i p len cp heq
    cases hr
    rw [heq] at hv
    obtain ⟨ad, cap, hv, _⟩ := hv.inv_slAny
    refine OpOk.pure (x := .int .i64 len) ?_ (.int _ _)
    simp [execOp, hop, resolve, hc, ha, hts', invoke, builtin, hv, Builtin.len_, run_underlying ht, goInt]
  · cases hr

theorem ok_lenS {c : Call} {x : Operand} {t : TypeId} (hop : o.op = .call c) (hc : c.callee = .builtin .len) (hargs : c.args.toList = [x]) (hts : c.argTypes.toList = [t]) (ht : P.underlying t = some .string)
    {ax : AOpd} (hx : opd x = some ax) (he : ERel ι nt e a.tmps) (hr : aOp call e h (.lenS ax) = some r) : OpOk P B ι h w o a r := by
  simp only [aOp] at hr
  have hv := opd_sound he hx
  have ha : c.args = #[x] := Array.ext' hargs
  have hts' : c.argTypes = #[t] := Array.ext' hts
  split at hr
  · rename_i s heq
    cases hr
    rw [heq] at hv
    have hv := hv.inv_str
    refine OpOk.pure (x := .int .i64 s.size) ?_ (.int _ _)
    simp [execOp, hop, resolve, hc, ha, hts', invoke, builtin, hv, Builtin.len_, run_underlying ht, goInt]
  · cases hr

theorem fold_mx : ∀ {vs : List AV} {xs : List Value} {v : AV} {x : Value} {u : AV}, VRel ι v x → VRelL ι vs xs → foldO aMax v vs = some u → ∃ y, (xs.foldlM Builtin.max2 x).run P w = .ok y w ∧ VRel ι u y
  | [], _, v, x, u, hv, .nil, hf => by
    simp only [foldO, Option.some.injEq] at hf; subst hf
    exact ⟨x, by simp, hv⟩
  | c :: vs, _, v, x, u, hv, .cons (v := y) hy ht, hf => by
    simp only [foldO] at hf
    split at hf
    · rename_i z hz
      unfold aMax at hz
      split at hz
      · rename_i k p k' q
        cases hz
        have := hv.inv_int; subst this
        have := hy.inv_int; subst this
        obtain ⟨y', h1, h2⟩ := fold_mx (.int k (if q > p then q else p)) ht hf
        refine ⟨y', ?_, h2⟩
        simp only [List.foldlM_cons, Builtin.max2, Sem.run_bind, Sem.run_pure, Result.andThen_ok]
        exact h1
      · cases hz
    · cases hf
theorem fold_mn : ∀ {vs : List AV} {xs : List Value} {v : AV} {x : Value} {u : AV}, VRel ι v x → VRelL ι vs xs → foldO aMin v vs = some u → ∃ y, (xs.foldlM Builtin.min2 x).run P w = .ok y w ∧ VRel ι u y
  | [], _, v, x, u, hv, .nil, hf => by
    simp only [foldO, Option.some.injEq] at hf; subst hf
    exact ⟨x, by simp, hv⟩
  | c :: vs, _, v, x, u, hv, .cons (v := y) hy ht, hf => by
    simp only [foldO] at hf
    split at hf
    · rename_i z hz
      unfold aMin at hz
      split at hz
      · rename_i k p k' q
        cases hz
        have := hv.inv_int; subst this
        have := hy.inv_int; subst this
        obtain ⟨y', h1, h2⟩ := fold_mn (.int k (if q < p then q else p)) ht hf
        refine ⟨y', ?_, h2⟩
        simp only [List.foldlM_cons, Builtin.min2, Sem.run_bind, Sem.run_pure, Result.andThen_ok]
        exact h1
      · cases hz
    · cases hf

theorem ok_mx {c : Call} (hop : o.op = .call c) (hc : c.callee = .builtin .max) {as : List AOpd} (hx : opds c.args.toList = some as) (he : ERel ι nt e a.tmps) (hr : aOp call e h (.mx as) = some r) : OpOk P B ι h w o a r := by
  simp only [aOp] at hr
  have hv := opds_sound he hx
  split at hr
  · rename_i x rest heq
    simp only [Option.map_eq_some_iff] at hr
    obtain ⟨v, hf, rfl⟩ := hr
    rw [heq] at hv
    generalize hmap : c.args.toList.map a.eval = ys at hv
    cases hv with
    | cons hx0 ht0 =>
      obtain ⟨y, h1, h2⟩ := fold_mx (P := P) (w := w) hx0 ht0 hf
      refine OpOk.pure (x := y) ?_ h2
      simp [execOp, hop, resolve, hc, invoke, builtin, Builtin.max_, hmap, h1]
  · cases hr
theorem ok_mn {c : Call} (hop : o.op = .call c) (hc : c.callee = .builtin .min) {as : List AOpd} (hx : opds c.args.toList = some as) (he : ERel ι nt e a.tmps) (hr : aOp call e h (.mn as) = some r) : OpOk P B ι h w o a r := by
  simp only [aOp] at hr
  have hv := opds_sound he hx
  split at hr
  · rename_i x rest heq
    simp only [Option.map_eq_some_iff] at hr
    obtain ⟨v, hf, rfl⟩ := hr
    rw [heq] at hv
    generalize hmap : c.args.toList.map a.eval = ys at hv
    cases hv with
    | cons hx0 ht0 =>
      obtain ⟨y, h1, h2⟩ := fold_mn (P := P) (w := w) hx0 ht0 hf
      refine OpOk.pure (x := y) ?_ h2
      simp [execOp, hop, resolve, hc, invoke, builtin, Builtin.min_, hmap, h1]
  · cases hr
end
end Go.Proofs.Ytocoadpepofbbaa.AM
