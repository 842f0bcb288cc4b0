/-
  REGIONS, drawn or not.
-/
import Derived.Test.YtocoadpepofbbaaG7
import Derived.RangeFuncRecord
set_option linter.unusedVariables false
set_option linter.unusedSimpArgs false
namespace Go.Proofs.Ytocoadpepofbbaa.AM
open Go

/-- The marks that ranges over functions have left. -/
inductive DRel (n : Nat) (ι : Emb) (h : List ABlk) : List Nat → List Deferred → Prop
  | nil : DRel n ι h [] []
  | cons {b : Nat} {l : Loc} {bs : List Nat} {ds : List Deferred} (hn : n ≤ b) (hb : h[b]? = some .defr) (hl : ι b 0 = some l) (hnew : b ∉ bs) (t : DRel n ι h bs ds) : DRel n ι h (b :: bs) (⟨.collected l.c, #[]⟩ :: ds)
theorem DRel.mono {n : Nat} {ι ι' : Emb} {h h' : List ABlk} (hs : Sub ι ι') (hd : ∀ b : Nat, h[b]? = some .defr → h'[b]? = some .defr) : ∀ {bs : List Nat} {ds : List Deferred}, DRel n ι h bs ds → DRel n ι' h' bs ds
  | _, _, .nil => .nil
  | _, _, .cons hn hb hl hnew t => .cons hn (hd _ hb) (hs _ _ _ hl) hnew (DRel.mono hs hd t)
theorem DRel.lt {n : Nat} {ι : Emb} {h : List ABlk} : ∀ {bs : List Nat} {ds : List Deferred}, DRel n ι h bs ds → ∀ b ∈ bs, b < h.length
  | _, _, .nil, b, hb => by cases hb
  | _, _, .cons hn hb hl hnew t, b, hb' => by
    rcases List.mem_cons.1 hb' with rfl | hb'
    · exact lt_of_get hb
    · exact DRel.lt t b hb'

/-- How a state of the abstract machine within a call stands to the model's. -/
structure XRel (P : Program) (B nt : Nat) (ι0 : Emb) (h0 : List ABlk) (w0 : World) (s : St) (ι : Emb) (a : Act) (w : World) : Prop where
  e : ERel ι nt s.e a.tmps
  ext : Ext P B ι0 h0 w0 s.wr ι s.h w
  d : ∃ bs, DRel h0.length ι s.h bs a.defers

theorem compOpers_get {P : Program} {all : List Oper} {nt : Nat} : ∀ {os : List Oper} {as : List AOper}, compOpers P all nt os = some as → as.length = os.length ∧ ∀ (i : Nat) (o : Oper), os[i]? = some o → ∃ ao, as[i]? = some ao ∧ compOper P all nt o = some ao
  | [], as, h => by simp [compOpers] at h; subst h; simp
  | o :: os, as, h => by
    simp only [compOpers] at h
    split at h
    · rename_i a r ha hr
      cases h
      obtain ⟨h1, h2⟩ := compOpers_get hr
      refine ⟨by simp [h1], fun i x hx => ?_⟩
      cases i with
      | zero => simp at hx; subst hx; exact ⟨a, rfl, ha⟩
      | succ i => simpa using h2 i x (by simpa using hx)
    · cases h

theorem runOps_F {call : Tgt → List AV → List ABlk → Option Ret} {base : Nat} : ∀ {ops : List AOper} {s s' : St}, runOps call base ops s = some s' → ∃ fs, runOpsF call base ops s = some (s', fs)
  | [], s, s', h => by simp [runOps] at h; subst h; exact ⟨[], rfl⟩
  | o :: os, s, s', h => by
    simp only [runOps] at h
    split at h
    · rename_i s1 f hs
      obtain ⟨fs, h1⟩ := runOps_F h
      exact ⟨f :: fs, by simp only [runOpsF, hs, h1]⟩
    · cases h
theorem runOpsF_chain {call : Tgt → List AV → List ABlk → Option Ret} {base : Nat} : ∀ {ops : List AOper} {st st' : St} {fs : List FP}, runOpsF call base ops st = some (st', fs) →
    ∃ (s : Nat → St) (fp : Nat → FP), s 0 = st ∧ s ops.length = st' ∧ ∀ (i : Nat) (ao : AOper), ops[i]? = some ao → stepOp call base ao (s i) = some (s (i + 1), fp i) ∧ fs[i]? = some (fp i)
  | [], st, st', fs, h => by simp [runOpsF] at h; exact ⟨fun _ => st, fun _ => default, rfl, h.1, fun i ao hi => by simp at hi⟩
  | o :: os, st, st', fs, h => by
    simp only [runOpsF] at h
    split at h
    · rename_i s1 f hs
      split at h
      · rename_i s2 fs2 h2
        cases h
        obtain ⟨s, fp, h3, h4, h5⟩ := runOpsF_chain h2
        refine ⟨fun | 0 => st | i + 1 => s i, fun | 0 => f | i + 1 => fp i, rfl, h4, fun i ao hi => ?_⟩
        cases i with
        | zero => simp at hi; subst hi; exact ⟨by rw [← h3] at hs; exact hs, rfl⟩
        | succ i => simpa using h5 i ao (by simpa using hi)
      · cases h
    · cases h

theorem ancs_old : ∀ (os : List Oper) (acc : List (List Nat)) (k : Nat), k < acc.length → (ancs os acc).getD k [] = acc.getD k []
  | [], acc, k, _ => rfl
  | o :: os, acc, k, h => by
    simp only [ancs]
    rw [ancs_old os _ k (by simp; omega)]
    simp [List.getD_eq_getElem?_getD, List.getElem?_append_left h]
theorem mem_uni {x : Nat} : ∀ {xs l : List Nat}, x ∈ uni l xs → x ∈ l ∨ x ∈ xs
  | [], l, h => .inl h
  | y :: xs, l, h => by
    rcases mem_uni (xs := xs) h with h1 | h1
    · split at h1
      · exact .inl h1
      · rcases List.mem_cons.1 h1 with rfl | h1
        · exact .inr (by simp)
        · exact .inl h1
    · exact .inr (by simp [h1])
theorem mem_ancFold {acc : List (List Nat)} {i : Nat} : ∀ {es : List Edge} {l : List Nat}, i ∈ es.foldl (fun l e => if Region.binds .any e then uni l (e.on :: acc.getD e.on []) else l) l →
    i ∈ l ∨ ∃ e ∈ es, Region.binds .any e = true ∧ (i = e.on ∨ i ∈ acc.getD e.on [])
  | [], l, h => .inl h
  | e :: es, l, h => by
    rcases mem_ancFold (es := es) h with h1 | ⟨e', h1, h2⟩
    · simp only [] at h1
      split at h1
      · rename_i hb
        rcases mem_uni h1 with h1 | h1
        · exact .inl h1
        · exact .inr ⟨e, by simp, hb, by simpa using h1⟩
      · exact .inl h1
    · exact .inr ⟨e', by simp [h1], h2⟩
theorem ancs_spec : ∀ (os : List Oper) (acc : List (List Nat)) (j : Nat) (o : Oper), os[j]? = some o → ∀ i ∈ (ancs os acc).getD (acc.length + j) [],
    ∃ e ∈ o.after, Region.binds .any e = true ∧ (i = e.on ∨ i ∈ (ancs os acc).getD e.on [])
  | [], acc, j, o, h, i, hi => by simp at h
  | x :: os, acc, 0, o, h, i, hi => by
    simp at h; subst h
    simp only [ancs, Nat.add_zero] at hi ⊢
    rw [ancs_old os _ _ (by simp)] at hi
    simp only [List.getD_eq_getElem?_getD, List.getElem?_concat_length, Option.getD_some] at hi
    rcases mem_ancFold (by simpa only [List.getD_eq_getElem?_getD] using hi) with h1 | ⟨e, h1, h2, h3⟩
    · cases h1
    · refine ⟨e, by simpa using h1, h2, h3.imp id fun h4 => ?_⟩
      have hlt : e.on < acc.length := by
        rcases Nat.lt_or_ge e.on acc.length with h5 | h5
        · exact h5
        · rw [List.getD_eq_getElem?_getD, List.getElem?_eq_none h5] at h4; cases h4
      rw [ancs_old os _ _ (by simp; omega)]
      simpa [List.getD_eq_getElem?_getD, List.getElem?_append_left hlt] using h4
  | x :: os, acc, j + 1, o, h, i, hi => by
    simp only [ancs] at hi ⊢
    refine ancs_spec os _ j o (by simpa using h) i ?_
    have hlen : ∀ X : List Nat, (acc ++ [X]).length + j = acc.length + (j + 1) := fun X => by simp; omega
    rw [hlen]
    exact hi

theorem mem_pairsOf {n i j : Nat} (h : i < j) (hj : j < n) : (i, j) ∈ pairsOf n := by
  simp only [pairsOf, List.mem_flatMap, List.mem_range, List.mem_filterMap]
  exact ⟨i, by omega, j, hj, by simp [h]⟩

theorem stepOp_wr {call : Tgt → List AV → List ABlk → Option Ret} {base : Nat} {o : AOper} {s s' : St} {f : FP} (h : stepOp call base o s = some (s', f)) :
    s'.wr = addAll s.wr (f.wr.filter (· < base)) ∨ (s'.wr = s.wr ∧ f.wr = []) := by
  simp only [stepOp] at h
  split at h
  · split at h
    · cases h; exact .inl rfl
    · cases h
  · cases h; exact .inr ⟨rfl, rfl⟩

theorem apart_of_static {call : Tgt → List AV → List ABlk → Option Ret} {base : Nat} {x y : AOper} {s1 s1' s2 s2' : St} {f g : FP} (h1 : stepOp call base x s1 = some (s1', f)) (h2 : stepOp call base y s2 = some (s2', g))
    (h : ((writesOp x.op && readsOp y.op) || (readsOp x.op && writesOp y.op)) = false) : apartFP f g = true := by
  have nw : ∀ {x : AOper} {s s' : St} {f : FP}, stepOp call base x s = some (s', f) → writesOp x.op = false → f.wr = [] := by
    intro x s s' f h hw
    rcases stepOp_inv h with ⟨_, r, hr, _, _, h3⟩ | ⟨_, _, _, h3⟩
    · rw [h3]; exact aOp_noWrite hr hw
    · rw [h3]
  have nr : ∀ {x : AOper} {s s' : St} {f : FP}, stepOp call base x s = some (s', f) → readsOp x.op = false → f.acc = some [] := by
    intro x s s' f h hw
    rcases stepOp_inv h with ⟨_, r, hr, _, _, h3⟩ | ⟨_, _, _, h3⟩
    · rw [h3]; exact aOp_noRead hr hw
    · rw [h3]
  simp only [Bool.or_eq_false_iff, Bool.and_eq_false_iff] at h
  simp only [apartFP, Bool.and_eq_true]
  constructor
  · rcases h.1 with h3 | h3
    · rw [nw h1 h3]; cases g.acc <;> simp
    · rw [nr h2 h3]; simp
  · rcases h.2 with h3 | h3
    · rw [nr h1 h3]; simp
    · rw [nw h2 h3]; cases f.acc <;> simp

section
variable {P : Program} {B nt : Nat} {call : Tgt → List AV → List ABlk → Option Ret} {W0 : List Nat} {h0 : List ABlk} {ops : Array Oper} {as : List AOper}

theorem chain_of {st st' : St} {fs : List FP} {ck : List (Nat × Nat)} (hcl : CallCl call) (hcomp : compOpers P ops.toList nt ops.toList = some as) (hck : chkOf ops.toList as = some ck)
    (hrun : runOpsF call h0.length as st = some (st', fs)) (hfs : ck ≠ [] → chkFP fs ck = true) (S : SCl W0 h0 st) :
    ∃ s fp, s 0 = st ∧ s ops.size = st' ∧ Chain P nt call W0 h0 ops as (fun j => (ancs ops.toList []).getD j []) s fp := by
  obtain ⟨hlen, hget⟩ := compOpers_get hcomp
  obtain ⟨s, fp, h1, h2, h3⟩ := runOpsF_chain hrun
  have hsz : as.length = ops.size := by rw [hlen]; simp
  refine ⟨s, fp, h1, by rw [← hsz]; exact h2, ⟨fun i o ho => hget i o (by simpa using ho), fun i ao hi => (h3 i ao hi).1, ?_, ?_, ?_, ?_⟩⟩
  · intro i
    induction i with
    | zero => intro _; rw [h1]; exact S
    | succ i ih =>
      intro hi
      obtain ⟨o, ho⟩ := get_op (ops := ops) (i := i) (by omega)
      obtain ⟨ao, hao, hc⟩ := hget i o (by simpa using ho)
      exact stepOp_cl hcl (h3 i ao hao).1 (compOper_inv hc).2.2.1 (ih (by omega))
  · intro j o ho i hi
    have := ancs_spec ops.toList [] j o (by simpa using ho) i (by simpa using hi)
    simpa using this
  · intro j o ho e he hb
    simp only [chkOf] at hck
    split at hck
    · rename_i h
      simp only [Bool.and_eq_true, List.all_eq_true] at h
      have h4 := h.1 (o, j) (List.mem_zipIdx_iff_getElem?.2 (by simpa using ho))
      simp only at h4
      have h5 := h4 e (by simpa using he)
      simpa [hb] using h5
    · cases hck
  · intro i j x y ax ay hij hx hy hax hay hno
    have hjn := lt_size hy
    simp only [chkOf] at hck
    split at hck
    · rename_i h
      simp only [Bool.and_eq_true, List.all_eq_true] at h
      have hfree : (i, j) ∈ (pairsOf ops.toList.length).filter fun p => !((ancs ops.toList []).getD p.2 []).contains p.1 := by
        refine List.mem_filter.2 ⟨mem_pairsOf hij (by simpa using hjn), ?_⟩
        simpa using hno
      have h4 := h.2 (i, j) hfree
      have hx' : ops.toList[i]? = some x := by simpa using hx
      have hy' : ops.toList[j]? = some y := by simpa using hy
      simp only [hx', hy', hax, hay] at h4
      refine ⟨h4, ?_⟩
      simp only [Option.some.injEq] at hck
      by_cases hst : ((writesOp ax.op && readsOp ay.op) || (readsOp ax.op && writesOp ay.op)) = true
      · have hmem : (i, j) ∈ ck := by
          rw [← hck]
          refine List.mem_filter.2 ⟨hfree, ?_⟩
          simp only [hax, hay]
          exact hst
        have h5 := hfs (fun e => by rw [e] at hmem; cases hmem)
        simp only [chkFP, List.all_eq_true] at h5
        have h6 := h5 (i, j) hmem
        simp only [(h3 i ax hax).2, (h3 j ay hay).2] at h6
        exact h6
      · exact apart_of_static (h3 i ax hax).1 (h3 j ay hay).1 (by simpa using hst)
    · cases hck

theorem chain_wr {an : Nat → List Nat} {s : Nat → St} {fp : Nat → FP} (C : Chain P nt call W0 h0 ops as an s fp) : ∀ n, n ≤ ops.size → ∀ b, b ∈ (s n).wr ↔ (b ∈ (s 0).wr ∨ (b < h0.length ∧ ∃ j, j < n ∧ b ∈ (fp j).wr))
  | 0, _, b => by simp
  | n + 1, h, b => by
    obtain ⟨o, ho⟩ := get_op (ops := ops) (i := n) (by omega)
    obtain ⟨ao, hao, hc⟩ := C.comp n o ho
    have hst := C.step n ao hao
    have ih := chain_wr C n (by omega) b
    have key : b ∈ (s (n + 1)).wr ↔ b ∈ (s n).wr ∨ (b ∈ (fp n).wr ∧ b < h0.length) := by
      rcases stepOp_wr hst with h1 | ⟨h1, h2⟩
      · rw [h1, mem_addAll, List.mem_filter]; simp
      · rw [h1, h2]; simp
    rw [key, ih]
    constructor
    · rintro ((h1 | ⟨h1, j, h2, h3⟩) | ⟨h1, h2⟩)
      · exact .inl h1
      · exact .inr ⟨h1, j, by omega, h3⟩
      · exact .inr ⟨h2, n, by omega, h1⟩
    · rintro (h1 | ⟨h1, j, h2, h3⟩)
      · exact .inl (.inl h1)
      · by_cases e : j = n
        · subst e; exact .inr ⟨h3, h1⟩
        · exact .inl (.inr ⟨h1, j, by omega, h3⟩)

variable {ι0 : Emb} {w0 : World}

/-- Two steps of a call, one behind the other. -/
theorem XRel.trans {s s' : St} {ι ι' : Emb} {a a' : Act} {w w' : World} {W : List Nat} (H0 : HRel P B ι0 h0 w0) (X : XRel P B nt ι0 h0 w0 s ι a w) (E : Ext P B ι s.h w W ι' s'.h w') (he : ERel ι' nt s'.e a'.tmps)
    (hW : ∀ b, b ∈ s'.wr ↔ (b ∈ s.wr ∨ (b ∈ W ∧ b < h0.length))) (hd : a'.defers = a.defers) : XRel P B nt ι0 h0 w0 s' ι' a' w' :=
  ⟨he, X.ext.trans H0 E hW, by obtain ⟨bs, h⟩ := X.d; rw [hd]; exact ⟨bs, h.mono E.sub E.dk⟩⟩

/-- A region that is drawn. -/
theorem region_any {ro : Option Nat} {st st' : St} {ck : List (Nat × Nat)} {ι : Emb} {a : Act} {w : World} {Q : Exit → Act → World → Prop} {id : Nat} (hm : P.follows .mixedOrders = true) (hcl : CallCl call) (hF : OkF P B call) (hY : OkY P B call)
    (H0 : HRel P B ι0 h0 w0) (X : XRel P B nt ι0 h0 w0 st ι a w)
    (hcomp : compOpers P ops.toList nt ops.toList = some as) (hck : chkOf ops.toList as = some ck) {fs : List FP}
    (hrun : runOpsF call h0.length as st = some (st', fs)) (hfs : ck ≠ [] → chkFP fs ck = true) (S : SCl W0 h0 st)
    (hQ : ∀ ι' a' w', XRel P B nt ι0 h0 w0 st' ι' a' w' → Q .normal a' w') : (Code.region id ops true).wpIn (FW ro) 0 P Q a w := by
  obtain ⟨s, fp, hs0, hsn, C⟩ := chain_of hcl hcomp hck hrun hfs S
  refine wpIn_region_any hm ?_
  have H1 := X.ext.hrel H0
  have H1' : HRel P B ι (s 0).h w := by rw [hs0]; exact H1
  have key : ∀ (fuel : Nat) (listed : Array Bool) (a1 : Act) (w1 : World) (ι1 : Emb) (W : List Nat) (L : List Nat), listed.size = ops.size → L.length ≤ fuel → (∀ i, i < ops.size → listed.getD i false = true ∨ i ∈ L) →
      Inv P B nt ι w a.defers ops.size as (fun j => (ancs ops.toList []).getD j []) s fp (fun i => listed.getD i false = true) a1 w1 ι1 W → wpAnyIn (FW ro) 0 P .any ops Q fuel listed a1 w1 := by
    have fin : ∀ (listed : Array Bool) (a1 : Act) (w1 : World) (ι1 : Emb) (W : List Nat), (∀ i, i < ops.size → listed.getD i false = true) →
        Inv P B nt ι w a.defers ops.size as (fun j => (ancs ops.toList []).getD j []) s fp (fun i => listed.getD i false = true) a1 w1 ι1 W → Q .normal a1 w1 := by
      intro listed a1 w1 ι1 W hall I
      have hcurH : curH s fp ops.size (fun i => listed.getD i false = true) = fun b => st'.h[b]? := by
        funext b
        rw [← hsn]
        exact last_can (x := fun i => (s i).h[b]?) (tch := tB s fp b) (fun j hj hnt => C.keepH hcl hj hnt) (Nat.le_refl _) (fun j hj _ => hall j hj) (fun j h1 h2 => by omega)
      have hcurE : ∀ t, curE s as ops.size (fun i => listed.getD i false = true) t = eget st'.e t := by
        intro t
        rw [← hsn]
        exact last_can (x := fun i => eget (s i).e t) (tch := tE as t) (fun j hj hnt => (C.facts hcl hj).2.2.2 t hnt) (Nat.le_refl _) (fun j hj _ => hall j hj) (fun j h1 h2 => by omega)
      have EL : Ext P B ι st.h w W ι1 st'.h w1 := by
        have := I.ext
        rw [hcurH, hs0] at this
        refine this.toL ?_
        rw [← hs0, ← hsn]
        exact C.lenLe hcl (Nat.zero_le _) (Nat.le_refl _)
      refine hQ ι1 a1 w1 (X.trans H0 EL ⟨I.size, fun t => by rw [← hcurE]; exact I.tm t⟩ ?_ I.dfr)
      intro b
      rw [← hsn, chain_wr C _ (Nat.le_refl _) b, hs0, I.wd, hs0]
      refine or_congr_right ⟨fun ⟨h1, j, h2, h3⟩ => ⟨⟨Nat.lt_of_lt_of_le h1 X.ext.len, j, h2, hall j h2, h3⟩, h1⟩, fun ⟨⟨h1, j, h2, h3, h4⟩, h5⟩ => ⟨h5, j, h2, h4⟩⟩
    have noneReady : ∀ listed : Array Bool, listed.size = ops.size → Region.ready .any ops listed = [] → ∀ i, i < ops.size → listed.getD i false = true := by
      intro listed hsz hr i
      induction i using Nat.strongRecOn with
      | _ i ih =>
        intro hi
        refine Classical.byContradiction fun hno => ?_
        obtain ⟨o, ho⟩ := get_op hi
        have : i ∈ Region.ready .any ops listed := by
          refine mem_ready.2 ⟨?_, o, ho, fun e he hb => ih e.on (C.aft i o ho e he hb) (by have := C.aft i o ho e he hb; omega)⟩
          have hlt : i < listed.size := by omega
          simpa [hlt] using hno
        rw [hr] at this
        cases this
    intro fuel
    induction fuel with
    | zero =>
      intro listed a1 w1 ι1 W L hsz hL hall I
      have : L = [] := List.eq_nil_of_length_eq_zero (by omega)
      subst this
      have hall' : ∀ i, i < ops.size → listed.getD i false = true := fun i hi => (hall i hi).resolve_right (by simp)
      refine ⟨?_, fin listed a1 w1 ι1 W hall' I⟩
      refine List.eq_nil_iff_forall_not_mem.2 fun i hi => ?_
      obtain ⟨h1, o, ho, _⟩ := mem_ready.1 hi
      have h2 := hall' i (lt_size ho)
      have hlt : i < listed.size := by rw [hsz]; exact lt_size ho
      simp [hlt] at h1 h2
      rw [h1] at h2; cases h2
    | succ fuel ih =>
      intro listed a1 w1 ι1 W L hsz hL hall I
      refine ⟨fun hr => fin listed a1 w1 ι1 W (noneReady listed hsz hr) I, fun i hi => ?_⟩
      obtain ⟨h1, o, ho, hready⟩ := mem_ready.1 hi
      have hin := lt_size ho
      have hlt : i < listed.size := by rw [hsz]; exact hin
      have hni : ¬listed.getD i false = true := by simp [hlt] at h1 ⊢; exact h1
      have hiL : i ∈ L := (hall i hin).resolve_left hni
      have hset : ∀ j, (listed.setIfInBounds i true).getD j false = true ↔ (listed.getD j false = true ∨ j = i) := by
        intro j
        simp only [Array.getD_eq_getD_getElem?, Array.getElem?_setIfInBounds]
        by_cases e : i = j
        · subst e; simp [hlt]
        · rw [if_neg e]
          simp [show j ≠ i from fun h => e h.symm]
      have next : ∀ (a2 : Act) (w2 : World), (∃ ι' W', Inv P B nt ι w a.defers ops.size as (fun j => (ancs ops.toList []).getD j []) s fp (fun j => listed.getD j false = true ∨ j = i) a2 w2 ι' W') →
          wpAnyIn (FW ro) 0 P .any ops Q fuel (listed.setIfInBounds i true) a2 w2 := by
        rintro a2 w2 ⟨ι', W', I'⟩
        refine ih _ a2 w2 ι' W' (L.erase i) (by simp [hsz]) (by rw [List.length_erase_of_mem hiL]; omega) ?_ ?_
        · intro j hj
          rcases hall j hj with h2 | h2
          · exact .inl ((hset j).2 (.inl h2))
          · by_cases e : j = i
            · exact .inl ((hset j).2 (.inr e))
            · exact .inr ((List.mem_erase_of_ne e).2 h2)
        · have : (fun j => (listed.setIfInBounds i true).getD j false = true) = fun j => listed.getD j false = true ∨ j = i := funext fun j => propext (hset j)
          rw [this]
          exact I'
      obtain ⟨hoff, hon⟩ := I.step C hcl hF hY H1' ho hni hready
      obtain ⟨ao, hao, hc⟩ := C.comp i o ho
      unfold wpOpIn
      simp only [ho]
      split
      · rename_i hw
        exact (hon hw).wpIn (not_defer (compOper_inv hc).1) fun v w' h => next _ _ h
      · rename_i hw
        exact ⟨fun f _ => FW_fn _ _, next _ _ (hoff (by simpa using hw))⟩
  have hE : XRel P B nt ι0 h0 w0 st ι a { w with drawn := w.drawn + 1 } := ⟨X.e, X.ext.trans H0 (Ext.same ⟨rfl, rfl, rfl, Nat.le_refl _⟩ fun _ _ => rfl) (by simp), X.d⟩
  refine key ops.size _ a _ ι [] (List.range ops.size) (by simp) (by simp) (fun i hi => .inr (by simpa using hi)) ⟨X.e.1, ?_, ?_, ?_, ?_, ?_, rfl⟩
  · intro t
    have : curE s as ops.size (fun i => (Array.replicate ops.size false).getD i false = true) t = eget st.e t := by
      rw [← hs0]
      exact last_can (x := fun i => eget (s i).e t) (tch := tE as t) (fun j hj hnt => (C.facts hcl hj).2.2.2 t hnt) (Nat.zero_le _) (fun j hj => by omega) (fun j _ hj hSj => by simp [Array.getElem?_replicate, hj] at hSj)
    rw [this]
    exact X.e.2 t
  · have : curH s fp ops.size (fun i => (Array.replicate ops.size false).getD i false = true) = fun b => (s 0).h[b]? := by
      funext b
      exact last_can (x := fun i => (s i).h[b]?) (tch := tB s fp b) (fun j hj hnt => C.keepH hcl hj hnt) (Nat.zero_le _) (fun j hj => by omega) (fun j _ hj hSj => by simp [Array.getElem?_replicate, hj] at hSj)
    rw [this]
    exact ExtF.refl (fun _ _ => rfl) ⟨rfl, rfl, rfl, Nat.le_refl _⟩
  · intro b
    simp [Array.getElem?_replicate]
    intro _ j hj h
    simp [hj] at h
  · intro j hj hSj
    simp [Array.getElem?_replicate, hj] at hSj
  · intro j hj hSj
    simp [Array.getElem?_replicate, hj] at hSj

/-- A region that is not drawn. -/
theorem region_seq {ro : Option Nat} {st st' : St} {ι : Emb} {a : Act} {w : World} {Q : Exit → Act → World → Prop} {id : Nat} (hcl : CallCl call) (hF : OkF P B call) (hY : OkY P B call)
    (H0 : HRel P B ι0 h0 w0) (X : XRel P B nt ι0 h0 w0 st ι a w)
    (hcomp : compOpers P ops.toList nt ops.toList = some as) (hrun : runOps call h0.length as st = some st') (S : SCl W0 h0 st)
    (hQ : ∀ ι' a' w', XRel P B nt ι0 h0 w0 st' ι' a' w' → Q .normal a' w') : (Code.region id ops false).wpIn (FW ro) 0 P Q a w := by
  obtain ⟨hlen, hget⟩ := compOpers_get hcomp
  have hsz : as.length = ops.size := by rw [hlen]; simp
  have key : ∀ (m k : Nat) (s : St) (ι1 : Emb) (a1 : Act) (w1 : World), k + m = ops.size → runOps call h0.length (as.drop k) s = some st' → XRel P B nt ι0 h0 w0 s ι1 a1 w1 → SCl W0 h0 s →
      wpOpsIn (FW ro) 0 P ops Q (List.range' k m) a1 w1 := by
    intro m
    induction m with
    | zero =>
      intro k s ι1 a1 w1 hk hr X1 S1
      rw [List.drop_eq_nil_of_le (by omega)] at hr
      simp only [runOps, Option.some.injEq] at hr
      subst hr
      exact hQ ι1 a1 w1 X1
    | succ m ih =>
      intro k s ι1 a1 w1 hk hr X1 S1
      obtain ⟨o, ho⟩ := get_op (ops := ops) (i := k) (by omega)
      obtain ⟨ao, hao, hc⟩ := hget k o (by simpa using ho)
      obtain ⟨hop, hdst, hclo, hdlt, hguard⟩ := compOper_inv hc
      have hdrop : as.drop k = ao :: as.drop (k + 1) := by
        obtain ⟨hlt, he⟩ := List.getElem?_eq_some_iff.1 hao
        rw [List.drop_eq_getElem_cons hlt, he]
      rw [hdrop] at hr
      simp only [runOps] at hr
      split at hr
      rotate_left
      · cases hr
      rename_i s1 f hst
      have S2 := stepOp_cl hcl hst hclo S1
      have H1 := X1.ext.hrel H0
      have hdfr : ∀ x, (a1.put o.dst x).defers = a1.defers := fun x => by cases o.dst <;> rfl
      have hwr := stepOp_wr hst
      have hwant := wanted_rel (tmps := a1.tmps) (e := s.e) (ι := ι1) hc fun t _ => X1.e.2 t
      have hputE : ∀ {ι' : Emb} {v : AV} {x : Value}, Sub ι1 ι' → VRel ι' v x → ERel ι' nt (match ao.dst with | some d => eset s.e d v | none => s.e) (a1.put o.dst x).tmps := by
        intro ι' v x hsub hv
        rw [hdst]
        cases hd' : o.dst with
        | none => exact X1.e.mono hsub
        | some d => exact (X1.e.mono hsub).put (hdlt d hd') hv
      rw [List.range'_succ]
      simp only [wpOpsIn, ho]
      rw [hwant]
      rcases stepOp_inv hst with ⟨hw, r, hr1, h1, h2, h3⟩ | ⟨hw, h1, h2, h3⟩
      · rw [if_pos hw]
        have hcomes : OpW P o a1 w1 (Comes P B ι1 s.h w1 r) := by
          by_cases hic : isCall ao.op = true
          · exact opW_call hF hY hop hclo hic X1.e hr1 H1 S1.e S1.hh
          · refine opW_plain hop (by simpa using hic) X1.e hr1 (fun acc _ b _ k hk => H1.blk b k hk) ?_ H1.hB ?_
            · intro g
              cases hg : ι1 s.h.length g with
              | none => rfl
              | some l =>
                obtain ⟨_, k, hk, _⟩ := H1.dom _ _ _ hg
                simp at hk
            · intro b hb k k' hk hk' hlt
              cases hg : ι1 b (bgen k') with
              | none => rfl
              | some l =>
                obtain ⟨_, k2, hk2, hle⟩ := H1.dom _ _ _ hg
                rw [hk] at hk2; cases hk2
                omega
        refine hcomes.wpIn (not_defer hop) ?_
        rintro v w' ⟨ι', hv, E⟩
        refine ih (k + 1) s1 ι' _ w' (by omega) hr (X1.trans H0 (W := r.wr) (by rw [h1]; exact E) (by rw [h2]; exact hputE E.sub hv) ?_ (hdfr v)) S2
        intro b
        rcases hwr with hwr | ⟨hwr, hnil⟩
        · rw [hwr, mem_addAll, List.mem_filter, h3]; simp
        · rw [hwr]
          rw [h3] at hnil
          simp only at hnil
          rw [hnil]; simp
      · rw [if_neg (by rw [hw]; simp)]
        refine ⟨fun f _ => FW_fn _ _, ?_⟩
        refine ih (k + 1) s1 ι1 _ w1 (by omega) hr (X1.trans H0 (W := []) (by rw [h1]; exact Ext.same (Misc.refl _) fun _ _ => rfl) (by rw [h2]; exact hputE (Sub.refl _) (undef_rel _)) ?_ (hdfr undef)) S2
        intro b
        rcases hwr with hwr | ⟨hwr, hnil⟩
        · rw [hwr, mem_addAll, List.mem_filter, h3]; simp
        · rw [hwr]; simp
  refine wpIn_region ?_
  rw [List.range_eq_range']
  exact key ops.size 0 st ι a w (by omega) (by simpa using hrun) X S
end

end Go.Proofs.Ytocoadpepofbbaa.AM

/-
  CODE: what the abstract machine says of it the model does.
-/
set_option linter.unusedVariables false
set_option linter.unusedSimpArgs false
namespace Go.Proofs.Ytocoadpepofbbaa.AM
open Go

def exOf : AExit → Exit
  | .normal => .normal
  | .exit id => .exit id
  | .ret => .ret

theorem compOpers_ok {P : Program} {all : List Oper} {nt : Nat} {os : List Oper} {as : List AOper} (h : compOpers P all nt os = some as) : (as.all fun o => clOp o.op) = true := by
  induction os generalizing as with
  | nil => simp [compOpers] at h; subst h; rfl
  | cons o os ih =>
    simp only [compOpers] at h
    split at h
    · rename_i a r ha hr
      cases h
      simp only [List.all_cons, Bool.and_eq_true]
      exact ⟨(compOper_inv ha).2.2.1, ih hr⟩
    · cases h

theorem comp_ok {P : Program} {nt : Nat} : ∀ (c : Code) {ac : ACode}, comp P nt c = some ac → okCode ac = true
  | .skip, ac, h => by simp [comp] at h; subst h; rfl
  | .region id ops draw, ac, h => by
    simp only [comp] at h
    split at h
    · cases h
    · rename_i as has
      split at h
      · simp only [Option.map_eq_some_iff] at h
        obtain ⟨ck, _, rfl⟩ := h
        exact compOpers_ok has
      · cases h
        exact compOpers_ok has
  | .seq a b, ac, h => by
    simp only [comp] at h
    split at h
    · rename_i a' b' ha hb
      cases h
      simp only [okCode, comp_ok a ha, comp_ok b hb, Bool.and_self]
    · cases h
  | .cond c t e, ac, h => by
    simp only [comp] at h
    split at h
    · rename_i c' t' e' hc ht he
      cases h
      simp only [okCode, comp_ok t ht, comp_ok e he, Bool.and_self]
    · cases h
  | .block id b, ac, h => by
    simp only [comp, Option.map_eq_some_iff] at h
    obtain ⟨b', hb, rfl⟩ := h
    simpa only [okCode] using comp_ok b hb
  | .loop b, ac, h => by
    simp only [comp, Option.map_eq_some_iff] at h
    obtain ⟨b', hb, rfl⟩ := h
    simpa only [okCode] using comp_ok b hb
  | .exit id, ac, h => by simp [comp] at h; subst h; rfl
  | .ret, ac, h => by simp [comp] at h; subst h; rfl
  | .rangeFunc f ps as b, ac, h => by
    simp only [comp] at h
    split at h
    · rename_i f' as' b' hf has hb
      split at h
      · rename_i hc
        simp only [Bool.and_eq_true] at hc
        cases h
        simp only [okCode, comp_ok as has, comp_ok b hb, hc.2, Bool.and_self]
      · cases h
    · cases h
  | .scope _, ac, h => by simp [comp] at h
  | .label _, ac, h => by simp [comp] at h
  | .goto _, ac, h => by simp [comp] at h
  | .refuse _, ac, h => by simp [comp] at h

section
variable {P : Program} {B nt N : Nat} {call : Tgt → List AV → List ABlk → Option Ret} {W0 : List Nat} {h0 : List ABlk} {ι0 : Emb} {w0 : World} {ro : Option Nat}

/-- A range over a function. -/
theorem rangeF_sound (hm : P.follows .mixedOrders = true) (hcl : CallCl call) (hF : OkF P B call) (hY : OkY P B call) (H0 : HRel P B ι0 h0 w0)
    {f : Operand} {ps : Array Tmp} {assign body : Code} {af : AOpd} {aas ab : ACode} {s s' : St} {x : AExit} {ι : Emb} {a : Act} {w : World} {Q : Exit → Act → World → Prop}
    (hf : opd f = some af) (has : comp P nt assign = some aas) (hb : comp P nt body = some ab) (hps : (ps.toList.all (· < nt)) = true) (hfc : refsL (opndCs af) = [])
    (hx : exec call N h0.length false (.rangeF af ps.toList aas ab) s = some (x, s')) (S : SCl W0 h0 s) (X : XRel P B nt ι0 h0 w0 s ι a w)
    (hQ : ∀ ι' a' w', XRel P B nt ι0 h0 w0 s' ι' a' w' → Q (exOf x) a' w') : (Code.rangeFunc f ps assign body).wpIn (FW none) 0 P Q a w := by
  simp only [exec] at hx
  split at hx
  · rename_i hh; cases hh
  generalize hh1 : s.h ++ [ABlk.defr] = h1 at hx
  generalize hlp : (⟨.ready, none, s.e, ps.toList, aas, ab⟩ : ALoop) = lp0 at hx
  split at hx
  rotate_left
  · cases hx
  rename_i g cap hg
  split at hx
  rotate_left
  · cases hx
  rename_i r hr
  split at hx
  rotate_left
  · cases hx
  rename_i lp hl
  split at hx
  · cases hx
  rename_i hnb
  have hlen1 : h1.length = s.h.length + 1 := by subst hh1; simp
  have H1 := X.ext.hrel H0
  -- the heaps as the statement is entered
  have none1 : ∀ g, ι s.h.length g = none := fun g => by
    cases hgg : ι s.h.length g with
    | none => rfl
    | some l =>
      obtain ⟨_, k, hk, _⟩ := H1.dom _ _ _ hgg
      simp at hk
  let w1 : World := w.alloc (.deferred (some []))
  have hsz1 : w1.heap.size = w.heap.size + 1 := by simp [w1]
  let ι1 : Emb := upd ι s.h.length 0 ⟨w.heap.size, 0, 0⟩
  have E1 : Ext P B ι s.h w [] ι1 h1 w1 := by
    subst hh1
    refine Ext.push (k := .defr) (l := ⟨w.heap.size, 0, 0⟩) (none1 _) (misc_alloc _ _) (Nat.le_refl _) (by rw [hsz1]; exact Nat.lt_succ_self _) (fun c hc => heap_alloc_lt _ _ hc) rfl ?_
    intro l hl
    rw [show bgen .defr = 0 from rfl] at hl
    rw [upd_same] at hl; cases hl
    exact ⟨H1.hB, heap_alloc_at _ _⟩
  have H2 := E1.hrel H1
  have none2 : ∀ g, ι1 h1.length g = none := fun g => by
    cases hgg : ι1 h1.length g with
    | none => rfl
    | some l =>
      obtain ⟨_, k, hk, _⟩ := H2.dom _ _ _ hgg
      simp at hk
  let rec0 : FuncId → Loop := fun fn => { state := .ready, pending := none, fn, tmps := a.tmps, params := ps, assign, body, defers := w.heap.size }
  let ι2 : Emb := upd ι1 h1.length 0 ⟨w.heap.size + 1, 0, 0⟩
  have E2 : ∀ fn, Ext P B ι1 h1 w1 [] ι2 (h1 ++ [.loop lp0]) (w1.alloc (.loop (rec0 fn))) := by
    intro fn
    refine Ext.push (k := .loop lp0) (l := ⟨w.heap.size + 1, 0, 0⟩) (none2 _) (misc_alloc _ _) (by rw [hsz1]; exact Nat.le_refl _) (by simp [hsz1]) (fun c hc => heap_alloc_lt _ _ hc) rfl ?_
    intro l hl
    rw [show bgen (.loop lp0) = 0 from rfl, upd_same] at hl; cases hl
    refine ⟨by have := H1.hB; simp only; omega, rec0 fn, ?_, ?_⟩
    · have := heap_alloc_at w1 (.loop (rec0 fn))
      rw [hsz1] at this; exact this
    · subst hlp
      have hsz := X.e.1
      refine ⟨rfl, trivial, ?_, rfl, ?_, ?_, ?_⟩
      · show ERel _ a.tmps.size s.e a.tmps
        rw [hsz]
        exact (X.e.mono E1.sub).mono (upd_sub (none2 _))
      · intro t ht
        show t < a.tmps.size
        rw [hsz]
        simpa using List.all_eq_true.1 hps t ht
      · show comp P a.tmps.size assign = _
        rw [hsz]; exact has
      · show comp P a.tmps.size body = _
        rw [hsz]; exact hb
  -- closedness
  have S1 : SCl W0 h0 { s with h := h1 } := by subst hh1; exact push1_cl S trivial
  have S2 : SCl W0 h0 { s with h := h1 ++ [.loop lp0] } := by
    subst hlp
    exact push1_cl (s := { s with h := h1 }) S1 (k := .loop _) ⟨S1.e.le (by simp), comp_ok _ has, comp_ok _ hb⟩
  have hfr := opd_sound X.e hf
  have hcapc : Cl s.h.length (refsL cap) := by
    have := av_cl S.e hfc
    rw [hg] at this
    exact this
  rw [hg] at hfr
  generalize hfv : a.eval f = fv at hfr
  cases hfr with
  | fn hvs =>
  rename_i vs
  refine wpIn_rangeFunc fun fn _ => ?_
  have E2 := E2 fn
  have H3 := E2.hrel H2
  have hl0 : ι2 h1.length 0 = some ⟨w.heap.size + 1, 0, 0⟩ := upd_same _ _ _ _
  have hargs : VRelL ι2 (.yld h1.length :: cap) (Value.func (.yield (w.heap.size + 1)) #[] #[] :: vs) :=
    .cons (.yld hl0) (VRelL.mono E2.sub (VRelL.mono E1.sub hvs))
  have hac : Cl (h1 ++ [ABlk.loop lp0]).length (refsL (.yld h1.length :: cap)) := by
    intro b hb
    simp only [refsL, refs, List.singleton_append, List.mem_cons] at hb
    rcases hb with rfl | hb
    · simp
    · have := hcapc b hb; simp; omega
  obtain ⟨⟨fn', b', hfn1, hfn2, hfn3⟩, hcalls⟩ := hF ι2 (h1 ++ [.loop lp0]) _ g _ _ r hr H3 hargs hac S2.hh
  refine ⟨w.heap.size + 1, [{ target := .collected w.heap.size, args := #[] }], w1.alloc (.loop (rec0 fn)), ⟨.fn (.func g) vs.toArray, #[.func (.yield (w.heap.size + 1)) #[] #[]]⟩, w1.alloc (.loop (rec0 fn)), g, #[.func (.yield (w.heap.size + 1)) #[] #[]] ++ vs.toArray, w1.alloc (.loop (rec0 fn)), run_enterLoop_outer _ _ _ _ _, ?_, fun _ _ => trivial, ?_, fun h => by simp [Fence.wide] at h, ?_⟩
  · simp only [resolve, rangeCall, hfv]
    simp [Deferred.ofValue, Sem.run_pure, Act.eval]
  · simp only [invoke]
    exact run_callFunc_enter hfn1 hfn2 hfn3 _
  have hva : (Value.func (.yield (w.heap.size + 1)) #[] #[] :: vs).toArray = #[.func (.yield (w.heap.size + 1)) #[] #[]] ++ vs.toArray := by
    apply Array.ext'; simp
  rw [hva] at hcalls
  refine CallsIn.mono hcalls ?_
  rintro en w3 ⟨v, ι3, rfl, _, E3⟩
  have H4 := E3.hrel H3
  have hl3 : ι3 h1.length 0 = some ⟨w.heap.size + 1, 0, 0⟩ := E3.sub _ _ _ hl0
  obtain ⟨hBl, rec, hrec, L⟩ := H4.blk _ _ hl _ hl3
  have hst : rec.state ≠ .busy := fun h => hnb (by rw [← L.st]; exact h)
  refine ⟨rec.pending, _, run_endLoop hrec hst, ?_⟩
  have hlt3 : w.heap.size + 1 < w3.heap.size := (H4.dom _ _ _ hl3).1
  have E4 : Ext P B ι3 r.h w3 [h1.length] ι3 (r.h.set h1.length (.loop { lp with st := .exhausted })) (w3.putObj (w.heap.size + 1) (.loop { rec with state := .exhausted })) := by
    refine Ext.write (k := .loop lp) (l := ⟨w.heap.size + 1, 0, 0⟩) hl rfl rfl rfl hl3 ⟨rfl, rfl, rfl, by simp [World.putObj]⟩ (fun c hne _ => World.putObj_heap_other hne) ?_
    intro l' hl'
    rw [hl3] at hl'; cases hl'
    exact ⟨hBl, _, World.putObj_heap_same hlt3, ⟨rfl, L.pend, L.e, L.params, L.plt, L.assign, L.body⟩⟩
  have hdef : ∃ bs, DRel h0.length ι3 (r.h.set h1.length (.loop { lp with st := .exhausted })) bs ({ target := .collected w.heap.size, args := #[] } :: a.defers) := by
    obtain ⟨bs, hd⟩ := X.d
    have hbs : s.h.length ∉ bs := fun h => by have := hd.lt _ h; omega
    have hd1 := hd.mono E1.sub E1.dk
    refine ⟨s.h.length :: bs, ?_⟩
    have base : DRel h0.length ι1 h1 (s.h.length :: bs) (⟨.collected (⟨w.heap.size, 0, 0⟩ : Loc).c, #[]⟩ :: a.defers) :=
      .cons S.len (by subst hh1; simp) (upd_same _ _ _ _) hbs hd1
    exact ((base.mono E2.sub E2.dk).mono E3.sub E3.dk).mono E4.sub E4.dk
  have XF : ∀ s2 : St, s2.e = s.e → s2.h = r.h.set h1.length (.loop { lp with st := .exhausted }) → s2.wr = addAll s.wr (r.wr.filter (· < h0.length)) →
      XRel P B nt ι0 h0 w0 s2 ι3 { a with defers := { target := .collected w.heap.size, args := #[] } :: a.defers } (w3.putObj (w.heap.size + 1) (.loop { rec with state := .exhausted })) := by
    intro s2 he hh hw
    refine ⟨?_, ?_, ?_⟩
    · rw [he]
      exact ((X.e.mono E1.sub).mono E2.sub).mono E3.sub
    · rw [hh, hw]
      have F1 := X.ext.trans H0 E1 (W := s.wr) (by simp)
      have F2 := F1.trans H0 E2 (W := s.wr) (by simp)
      have F3 := F2.trans H0 E3 (W := addAll s.wr (r.wr.filter (· < h0.length))) (by intro b; rw [mem_addAll, List.mem_filter]; simp)
      refine F3.trans H0 E4 ?_
      intro b
      have := S1.len
      simp only [List.mem_singleton]
      constructor
      · exact .inl
      · rintro (h | ⟨rfl, h⟩)
        · exact h
        · simp only at this; omega
    · rw [hh]; exact hdef
  have hpd := L.pend
  generalize w3.putObj (w.heap.size + 1) (.loop { rec with state := .exhausted }) = w4 at XF ⊢
  generalize rec.pending = pd at hpd
  cases hpn : lp.pend with
  | none =>
    rw [hpn] at hpd
    simp only [hpn, Option.some.injEq, Prod.mk.injEq] at hx
    obtain ⟨rfl, rfl⟩ := hx
    cases pd with
    | some c => exact hpd.elim
    | none => exact hQ _ _ _ (XF _ rfl (by rw [← hpn]) rfl)
  | some x0 =>
    rw [hpn] at hpd
    simp only [hpn, Option.some.injEq, Prod.mk.injEq] at hx
    obtain ⟨rfl, rfl⟩ := hx
    cases pd with
    | none => cases x0 <;> exact hpd.elim
    | some c =>
      have hq := hQ _ _ _ (XF _ rfl (by rw [← hpn]) rfl)
      cases x0 with
      | normal => cases c <;> exact hpd.elim
      | ret =>
        cases c <;> first | exact hpd.elim | skip
        exact wpIn_ret hq
      | exit i =>
        cases c <;> first | exact hpd.elim | skip
        rename_i j
        simp only [pendRel] at hpd
        subst hpd
        exact wpIn_exit hq

theorem exec_sound (hm : P.follows .mixedOrders = true) (hcl : CallCl call) (hF : OkF P B call) (hY : OkY P B call) (H0 : HRel P B ι0 h0 w0) : ∀ (c : Code) {ac : ACode} {s s' : St} {x : AExit} {ι : Emb} {a : Act} {w : World} {Q : Exit → Act → World → Prop},
    comp P nt c = some ac → exec call N h0.length ro.isSome ac s = some (x, s') → SCl W0 h0 s → XRel P B nt ι0 h0 w0 s ι a w →
    (∀ ι' a' w', XRel P B nt ι0 h0 w0 s' ι' a' w' → Q (exOf x) a' w') → c.wpIn (FW ro) 0 P Q a w
  | .skip, ac, s, s', x, ι, a, w, Q, hc, hx, S, X, hQ => by
    simp [comp] at hc; subst hc
    simp only [exec, Option.some.injEq, Prod.mk.injEq] at hx
    obtain ⟨rfl, rfl⟩ := hx
    exact wpIn_skip (hQ _ _ _ X)
  | .region id ops draw, ac, s, s', x, ι, a, w, Q, hc, hx, S, X, hQ => by
    simp only [comp] at hc
    split at hc
    · cases hc
    · rename_i as has
      split at hc
      · rename_i hd
        simp only [Option.map_eq_some_iff] at hc
        obtain ⟨ck, hck, rfl⟩ := hc
        subst hd
        simp only [exec, true_and] at hx
        split at hx
        · split at hx
          · rename_i s1 fs hrun
            split at hx
            · rename_i hfs
              cases hx
              exact region_any hm hcl hF hY H0 X has hck hrun (fun _ => hfs) S hQ
            · cases hx
          · cases hx
        · rename_i hnil
          split at hx
          · rename_i s1 hrun
            cases hx
            obtain ⟨fs, hrun'⟩ := runOps_F hrun
            exact region_any hm hcl hF hY H0 X has hck hrun' (fun h => absurd h hnil) S hQ
          · cases hx
      · rename_i hd
        cases hc
        have hd' : draw = false := by simpa using hd
        subst hd'
        simp only [exec] at hx
        split at hx
        · rename_i hh; exact absurd hh.1 (by simp)
        · split at hx
          · rename_i s1 hrun
            cases hx
            exact region_seq hcl hF hY H0 X has hrun S hQ
          · cases hx
  | .seq c1 c2, ac, s, s', x, ι, a, w, Q, hc, hx, S, X, hQ => by
    simp only [comp] at hc
    split at hc
    · rename_i a1 a2 h1 h2
      cases hc
      simp only [exec] at hx
      split at hx
      · rename_i s1 hx1
        have S1 := exec_cl hcl _ hx1 (comp_ok _ h1) S
        refine wpIn_seq (exec_sound hm hcl hF hY H0 c1 h1 hx1 S X ?_)
        intro ι' a' w' X'
        exact exec_sound hm hcl hF hY H0 c2 h2 hx S1 X' hQ
      · rename_i hne
        refine wpIn_seq (exec_sound hm hcl hF hY H0 c1 h1 hx S X ?_)
        intro ι' a' w' X'
        have := hQ ι' a' w' X'
        cases x with
        | normal => exact absurd hx (hne s')
        | exit i => exact this
        | ret => exact this
    · cases hc
  | .cond c t e, ac, s, s', x, ι, a, w, Q, hc, hx, S, X, hQ => by
    simp only [comp] at hc
    split at hc
    · rename_i c' t' e' h1 h2 h3
      cases hc
      have hv := opd_sound X.e h1
      simp only [exec] at hx
      split at hx
      · rename_i hb
        rw [hb] at hv
        generalize hv' : a.eval c = v at hv
        cases hv
        exact wpIn_cond_true hv' (exec_sound hm hcl hF hY H0 t h2 hx S X hQ)
      · rename_i hb
        rw [hb] at hv
        generalize hv' : a.eval c = v at hv
        cases hv
        exact wpIn_cond_false hv' (exec_sound hm hcl hF hY H0 e h3 hx S X hQ)
      · cases hx
    · cases hc
  | .block id b, ac, s, s', x, ι, a, w, Q, hc, hx, S, X, hQ => by
    simp only [comp, Option.map_eq_some_iff] at hc
    obtain ⟨b', hb, rfl⟩ := hc
    simp only [exec] at hx
    split at hx
    · rename_i i s1 hx1
      split at hx
      · rename_i he
        cases hx
        refine wpIn_block (exec_sound hm hcl hF hY H0 b hb hx1 S X ?_)
        intro ι' a' w' X'
        show if i = id then _ else _
        rw [if_pos he]
        exact hQ ι' a' w' X'
      · rename_i he
        cases hx
        refine wpIn_block (exec_sound hm hcl hF hY H0 b hb hx1 S X ?_)
        intro ι' a' w' X'
        show if i = id then _ else _
        rw [if_neg he]
        exact hQ ι' a' w' X'
    · rename_i hne
      refine wpIn_block (exec_sound hm hcl hF hY H0 b hb hx S X ?_)
      intro ι' a' w' X'
      have := hQ ι' a' w' X'
      cases x with
      | normal => exact this
      | exit i => exact absurd hx (hne i s')
      | ret => exact this
  | .loop b, ac, s, s', x, ι, a, w, Q, hc, hx, S, X, hQ => by
    simp only [comp, Option.map_eq_some_iff] at hc
    obtain ⟨b', hb, rfl⟩ := hc
    have ihb : ∀ {s s' : St} {x : AExit} {ι : Emb} {a : Act} {w : World} {Q : Exit → Act → World → Prop}, exec call N h0.length ro.isSome b' s = some (x, s') → SCl W0 h0 s → XRel P B nt ι0 h0 w0 s ι a w →
        (∀ ι' a' w', XRel P B nt ι0 h0 w0 s' ι' a' w' → Q (exOf x) a' w') → b.wpIn (FW ro) 0 P Q a w := fun h1 h2 h3 h4 => exec_sound hm hcl hF hY H0 b hb h1 h2 h3 h4
    simp only [exec] at hx
    refine wpIn_loop_rounds N ?_
    have key : ∀ (n : Nat) (s : St) (ι : Emb) (a : Act) (w : World), iter (exec call N h0.length ro.isSome b') n s = some (x, s') → SCl W0 h0 s → XRel P B nt ι0 h0 w0 s ι a w → Code.roundsIn (FW ro) 0 P b Q n a w := by
      intro n
      induction n with
      | zero => intro s ι a w h; simp [iter] at h
      | succ n ih =>
        intro s ι a w h S X
        simp only [iter] at h
        split at h
        · rename_i s1 h1
          have S1 := exec_cl hcl _ h1 (comp_ok _ hb) S
          refine ihb h1 S X ?_
          intro ι' a' w' X'
          exact ih s1 ι' a' w' h S1 X'
        · rename_i hne
          refine ihb h S X ?_
          intro ι' a' w' X'
          have := hQ ι' a' w' X'
          cases x with
          | normal => exact absurd h (hne s')
          | exit i => exact this
          | ret => exact this
    exact key N s ι a w hx S X
  | .exit id, ac, s, s', x, ι, a, w, Q, hc, hx, S, X, hQ => by
    simp [comp] at hc; subst hc
    simp only [exec, Option.some.injEq, Prod.mk.injEq] at hx
    obtain ⟨rfl, rfl⟩ := hx
    exact wpIn_exit (hQ _ _ _ X)
  | .ret, ac, s, s', x, ι, a, w, Q, hc, hx, S, X, hQ => by
    simp [comp] at hc; subst hc
    simp only [exec, Option.some.injEq, Prod.mk.injEq] at hx
    obtain ⟨rfl, rfl⟩ := hx
    exact wpIn_ret (hQ _ _ _ X)
  | .rangeFunc f ps as b, ac, s, s', x, ι, a, w, Q, hc, hx, S, X, hQ => by
    simp only [comp] at hc
    split at hc
    · rename_i f' as' b' hf has hb
      split at hc
      · rename_i hcc
        simp only [Bool.and_eq_true] at hcc
        cases hc
        cases ro with
        | some l => simp [exec] at hx
        | none => exact rangeF_sound hm hcl hF hY H0 hf has hb hcc.1 (by simpa using hcc.2) hx S X hQ
      · cases hc
    · cases hc
  | .scope _, ac, s, s', x, ι, a, w, Q, hc, hx, S, X, hQ => by simp [comp] at hc
  | .label _, ac, s, s', x, ι, a, w, Q, hc, hx, S, X, hQ => by simp [comp] at hc
  | .goto _, ac, s, s', x, ι, a, w, Q, hc, hx, S, X, hQ => by simp [comp] at hc
  | .refuse _, ac, s, s', x, ι, a, w, Q, hc, hx, S, X, hQ => by simp [comp] at hc
end

end Go.Proofs.Ytocoadpepofbbaa.AM
