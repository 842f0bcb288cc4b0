/-
  ONE OPERATION of a region, calls too: its weakest precondition; on a part of the temporaries and of the embedding.
-/
import Derived.Test.YtocoadpepofbbaaG5
import Derived.Test.YtocoadpepofbbaaG6
set_option linter.unusedVariables false
set_option linter.unusedSimpArgs false
namespace Go.Proofs.Ytocoadpepofbbaa.AM
open Go

/-! ### restriction -/
def rst (n : Nat) (ι : Emb) : Emb := fun b g => if b < n then ι b g else none
theorem rst_sub (n : Nat) (ι : Emb) : Sub (rst n ι) ι := fun b g l h => by
  unfold rst at h
  split at h
  · exact h
  · cases h
theorem rst_at {n : Nat} {ι : Emb} {b g : Nat} (h : b < n) : rst n ι b g = ι b g := by simp [rst, h]
theorem rst_out {n : Nat} {ι : Emb} {b g : Nat} (h : n ≤ b) : rst n ι b g = none := by simp [rst]; omega

mutual
theorem VRel.rst {ι : Emb} {n : Nat} : ∀ {v : AV} {x : Value}, VRel ι v x → Cl n (refs v) → VRel (rst n ι) v x
  | _, _, .int k m, _ => .int k m
  | _, _, .bool b, _ => .bool b
  | _, _, .str s, _ => .str s
  | _, _, .ptrN, _ => .ptrN
  | _, _, .ptr h, hc => .ptr (by rw [rst_at (hc _ (by simp [refs]))]; exact h)
  | _, _, .slN, _ => .slN
  | _, _, .sl h hl hp ha, hc => .sl (by rw [rst_at (hc _ (by simp [refs]))]; exact h) hl hp ha
  | _, _, .mapN, _ => .mapN
  | _, _, .map h, hc => .map (by rw [rst_at (hc _ (by simp [refs]))]; exact h)
  | _, _, .fn h, hc => .fn (VRelL.rst h (by simpa [refs] using hc))
  | _, _, .yld h, hc => .yld (by rw [rst_at (hc _ (by simp [refs]))]; exact h)
  | _, _, .nilFn, _ => .nilFn
  | _, _, .agg h, hc => .agg (VRelL.rst h (by simpa [refs] using hc))
  | _, _, .tup h, hc => .tup (VRelL.rst h (by simpa [refs] using hc))
theorem VRelL.rst {ι : Emb} {n : Nat} : ∀ {v : List AV} {x : List Value}, VRelL ι v x → Cl n (refsL v) → VRelL (rst n ι) v x
  | _, _, .nil, _ => .nil
  | _, _, .cons h t, hc => .cons (VRel.rst h fun b hb => hc b (by simp [refsL, hb])) (VRelL.rst t fun b hb => hc b (by simp [refsL, hb]))
end
theorem RowR.rst {ι : Emb} {n : Nat} {cs : List AV} {f : Nat → Option Value} (h : RowR ι cs f) (hc : Cl n (refsL cs)) : RowR (rst n ι) cs f :=
  fun j v hv => let ⟨v', h1, h2⟩ := h j v hv; ⟨v', h1, h2.rst (hc.mem (List.mem_of_getElem? hv))⟩
theorem ERelK.rst {ι : Emb} {n : Nat} : ∀ {es : List (AV × AV)} {ms : List MapEntry}, ERelK ι es ms → (∀ p ∈ es, Cl n (refs p.1) ∧ Cl n (refs p.2)) → ERelK (rst n ι) es ms
  | _, _, .nil, _ => .nil
  | _, _, .cons (k := k) (v := v) hk hv t, hc => .cons (hk.rst (hc (k, v) (by simp)).1) (hv.rst (hc (k, v) (by simp)).2) (ERelK.rst t fun p hp => hc p (by simp [hp]))
theorem ERel.rst {ι : Emb} {n nt : Nat} {e : List AV} {tmps : Array Value} (h : ERel ι nt e tmps) (hc : Cl n (refsL e)) : ERel (rst n ι) nt e tmps :=
  ⟨h.1, fun t => (h.2 t).rst (eget_cl hc t)⟩
theorem BRel.rst {P : Program} {B : Nat} {ι : Emb} {w : World} {n b : Nat} {k : ABlk} (h : BRel P B ι w b k) (hc : BCl n k) : BRel P B (rst n ι) w b k := by
  cases k with
  | row ro cs =>
    cases ro with
    | true => exact fun l hl => (h l (rst_sub _ _ _ _ _ hl)).rst hc
    | false =>
      intro l hl
      obtain ⟨h1, h2, c, e, h3, h4, h5⟩ := h l (rst_sub _ _ _ _ _ hl)
      exact ⟨h1, h2, c, e, h3, h4, h5.rst hc⟩
  | map ag ks es =>
    intro l hl
    obtain ⟨h1, h2, ms, k, h3, h4⟩ := h l (rst_sub _ _ _ _ _ hl)
    exact ⟨h1, h2, ms, k, h3, h4.rst hc⟩
  | defr => exact fun l hl => h l (rst_sub _ _ _ _ _ hl)
  | loop lp =>
    intro l hl
    obtain ⟨h1, r, h2, h3⟩ := h l (rst_sub _ _ _ _ _ hl)
    exact ⟨h1, r, h2, h3.st, h3.pend, h3.e.rst hc.1, h3.params, h3.plt, h3.assign, h3.body⟩
theorem BRel.none {P : Program} {B : Nat} {ι : Emb} {w : World} {b : Nat} {k : ABlk} (h : ∀ g, ι b g = none) : BRel P B ι w b k := by
  cases k with
  | row ro cs =>
    cases ro with
    | true => exact fun l hl => by rw [h] at hl; cases hl
    | false => exact fun l hl => by rw [h] at hl; cases hl
  | map ag ks es => exact fun l hl => by rw [h] at hl; cases hl
  | defr => exact fun l hl => by rw [h] at hl; cases hl
  | loop lp => exact fun l hl => by rw [h] at hl; cases hl

/-! ### the weakest precondition of an operation -/
abbrev FW (ro : Option Nat) : Fence := { Fence.wide with round := ro }
theorem FW_fn (ro : Option Nat) (f : FuncId) : (FW ro).fn f := trivial

def ResOk (P : Program) (R : Value → World → Prop) : Result Next → Prop
  | .ok (.value v) w' => R v w'
  | .ok .skip w' => R undef w'
  | .ok (.enter f args) w' => CallsIn Fence.wide 0 P f args w' fun e w'' => ∃ v, e = .returned v ∧ R v w''
  | .ok (.round l f tmps assign body) w' => RoundIn Fence.wide 0 P l f tmps assign body w' fun e w'' => ∃ v, e = .returned v ∧ R v w''
  | _ => False
/-- An operation comes to a value and a world that R takes. -/
def OpW (P : Program) (o : Oper) (a : Act) (w : World) (R : Value → World → Prop) : Prop := ResOk P R ((execOp a.eval o).run P w)

def OkF (P : Program) (B : Nat) (call : Tgt → List AV → List ABlk → Option Ret) : Prop :=
  ∀ ι h w g args vals r, call (.f g) args h = some r → HRel P B ι h w → VRelL ι args vals → Cl h.length (refsL args) → HCl h.length h →
    (∃ fn b, P.funcs[g]? = some fn ∧ fn.body = some b ∧ fn.name ≠ "runtime.NumGoroutine") ∧
    CallsIn Fence.wide 0 P g vals.toArray w fun e w' => ∃ v ι', e = .returned v ∧ VRel ι' r.v v ∧ Ext P B ι h w r.wr ι' r.h w'
def OkY (P : Program) (B : Nat) (call : Tgt → List AV → List ABlk → Option Ret) : Prop :=
  ∀ ι h w l args vals r, call (.y l) args h = some r → HRel P B ι h w → VRelL ι args vals → Cl h.length (refsL args) → HCl h.length h →
    ∀ loc, ι l 0 = some loc → ∃ rec, w.heap[loc.c]? = some (.loop rec) ∧ vals.length = rec.params.size ∧
    RoundIn Fence.wide 0 P loc.c rec.fn ((rec.params.zip vals.toArray).foldl (fun tmps (t, a) => tmps.setIfInBounds t a) rec.tmps) rec.assign rec.body w fun e w' => ∃ v ι', e = .returned v ∧ VRel ι' r.v v ∧ Ext P B ι h w r.wr ι' r.h w'

section
variable {P : Program} {B : Nat} {ι : Emb} {nt : Nat} {e : List AV} {o : Oper} {a : Act} {h : List ABlk} {w : World} {call : Tgt → List AV → List ABlk → Option Ret} {r : OpR} {ro : Option Nat}

theorem compOp_defer {c : Call} : compOp P (.defer c) = none := rfl
theorem not_defer {ao : AOp} (hc : compOp P o.op = some ao) : ∀ c, o.op ≠ .defer c := fun c h => by rw [h, compOp_defer] at hc; cases hc
theorem semAt_ro (ρ : Operand → Value) (h : ∀ c, o.op ≠ .defer c) : o.semAt (FW ro).round ρ = execOp ρ o := Oper.semAt_eq _ _ _ h

theorem ResOk.mono {R R' : Value → World → Prop} (hr : ∀ v w', R v w' → R' v w') : ∀ {x : Result Next}, ResOk P R x → ResOk P R' x := by
  intro x hx
  unfold ResOk at hx ⊢
  split at hx
  · exact hr _ _ hx
  · exact hr _ _ hx
  · exact CallsIn.mono hx fun e w'' ⟨v, h1, h2⟩ => ⟨v, h1, hr _ _ h2⟩
  · exact RoundIn.mono hx fun e w'' ⟨v, h1, h2⟩ => ⟨v, h1, hr _ _ h2⟩
  · exact hx.elim
theorem OpW.mono {R R' : Value → World → Prop} (hw : OpW P o a w R) (hr : ∀ v w', R v w' → R' v w') : OpW P o a w R' := ResOk.mono hr hw

theorem OpW.wpIn {R : Value → World → Prop} (hw : OpW P o a w R) (hd : ∀ c, o.op ≠ .defer c) {next : Act → World → Prop} {Q : Exit → Act → World → Prop} (hn : ∀ v w', R v w' → next (a.put o.dst v) w') : o.wpIn (FW ro) 0 P a w next Q := by
  refine ⟨fun f _ => FW_fn _ _, ?_⟩
  rw [semAt_ro _ hd]
  unfold OpW at hw
  revert hw
  generalize (execOp a.eval o).run P w = res
  intro hw
  unfold ResOk at hw
  split at hw
  · exact hn _ _ hw
  · exact hn _ _ hw
  · refine ⟨fun h => by simp [Fence.wide] at h, ?_⟩
    exact CallsIn.mono (F := FW ro) hw fun e w'' ⟨v, h1, h2⟩ => by subst h1; exact hn _ _ h2
  · refine ⟨fun h => by simp [Fence.wide] at h, ?_⟩
    exact RoundIn.mono (F := FW ro) hw fun e w'' ⟨v, h1, h2⟩ => by subst h1; exact hn _ _ h2
  · exact hw.elim

theorem OpW.of_runs {v : Value} {w' : World} {R : Value → World → Prop} (hr : Runs P o a w v w') (hR : R v w') : OpW P o a w R := by
  obtain ⟨nx, h1, h2⟩ := hr
  unfold OpW
  rw [h1]
  rcases h2 with rfl | ⟨rfl, rfl⟩
  · exact hR
  · exact hR

/-- The same operation, its operands read alike. -/
theorem OpW.congr {a' : Act} {R : Value → World → Prop} (hs : ∀ cs b, o.op ≠ .select cs b) (he : ∀ x ∈ o.op.operands, a.eval x = a'.eval x) (hw : OpW P o a' w R) : OpW P o a w R := by
  unfold OpW at hw ⊢
  rw [execOp_congr o hs he]
  exact hw

theorem isCall_inv {op : Op} {ao : AOp} (hc : compOp P op = some ao) (hnc : isCall ao = true) : ∃ c f, op = .call c ∧ c.callee = .value f := by
  cases op
  case call c =>
    simp only [compOp, compCall] at hc
    split at hc
    · rename_i f hcal
      exact ⟨c, _, rfl, hcal⟩
    · rename_i f hnf hcal
      exact ⟨c, _, rfl, hcal⟩
    all_goals (exfalso; repeat' split at hc)
    all_goals first
      | (cases hc; done)
      | (cases hc; simp only [isCall] at hnc; cases hnc; done)
      | (simp only [Option.map_eq_some_iff] at hc; obtain ⟨_, _, rfl⟩ := hc; simp only [isCall] at hnc; cases hnc; done)
  all_goals (exfalso; simp only [compOp] at hc; try (repeat' split at hc))
  all_goals first
      | (cases hc; done)
      | (cases hc; simp only [isCall] at hnc; cases hnc; done)
      | (simp only [Option.map_eq_some_iff] at hc; obtain ⟨_, _, rfl⟩ := hc; simp only [isCall] at hnc; cases hnc; done)
      | contradiction

/-- What the model's operation comes to, as the abstract one says. -/
abbrev Comes (P : Program) (B : Nat) (ι : Emb) (h : List ABlk) (w : World) (r : OpR) (v : Value) (w' : World) : Prop :=
  ∃ ι', VRel ι' r.v v ∧ Ext P B ι h w r.wr ι' r.h w'

theorem opW_plain {ao : AOp} (hc : compOp P o.op = some ao) (hnc : isCall ao = false) (he : ERel ι nt e a.tmps) (hr : aOp call e h ao = some r)
    (hblk : ∀ acc, r.acc = some acc → ∀ b ∈ acc, ∀ k, h[b]? = some k → BRel P B ι w b k) (hn : ∀ g, ι h.length g = none) (hB : B ≤ w.heap.size)
    (hfg : ∀ b ∈ r.wr, ∀ k k', h[b]? = some k → r.h[b]? = some k' → bgen k < bgen k' → ι b (bgen k') = none) : OpW P o a w (Comes P B ι h w r) := by
  obtain ⟨ι', v, w', h1, h2, h3⟩ := op_sound hc hnc he hr hblk hn hB hfg
  exact .of_runs h1 ⟨ι', h2, h3⟩

theorem run_callFunc_enter {f : FuncId} {fn : Func} {b : Code} (hf : P.funcs[f]? = some fn) (hb : fn.body = some b) (hn : fn.name ≠ "runtime.NumGoroutine") (args : Array Value) :
    (callFunc f args).run P w = .ok (.enter f args) w := by
  simp [callFunc, go_sem, hf, hb, hn]

theorem refsL_of_cl {ao : AOp} (h : clOp ao = true) : refsL (opCs ao) = [] := by simpa [clOp] using h

theorem opW_call {ao : AOp} (hF : OkF P B call) (hY : OkY P B call) (hc : compOp P o.op = some ao) (hcl : clOp ao = true) (hnc : isCall ao = true) (he : ERel ι nt e a.tmps) (hr : aOp call e h ao = some r)
    (H : HRel P B ι h w) (hec : Cl h.length (refsL e)) (Hc : HCl h.length h) : OpW P o a w (Comes P B ι h w r) := by
  have hcl := refsL_of_cl hcl
  have key : ∀ {c : Call} {g : FuncId} {cap : List AV} {fv : Value} {xs : List AOpd} {q : Ret} {callee : Operand}, o.op = .call c → c.callee = .value callee → a.eval callee = fv → VRel ι (.fn g cap) fv → opds c.args.toList = some xs →
      call (.f g) (xs.map (av e) ++ cap) h = some q → refsL (opndsCs xs) = [] → Cl h.length (refsL cap) → OpW P o a w (Comes P B ι h w ⟨q.v, q.h, q.wr, q.lk, none⟩) := by
    intro c g cap fv xs q callee hop hcal hev hfv hxs hq hxc hcap
    cases hfv with
    | fn hvs =>
      rename_i vs
      have hargs := opds_sound he hxs
      have hall := hargs.append hvs
      obtain ⟨⟨fn, b, h1, h2, h3⟩, hcalls⟩ := hF ι h w g _ _ q hq H hall (Cl.append (avs_cl hec hxc) hcap) Hc
      unfold OpW
      have hrun : (execOp a.eval o).run P w = .ok (.enter g (c.args.map a.eval ++ vs.toArray)) w := by
        simp [execOp, hop, resolve, hcal, hev, Deferred.ofValue, invoke, Sem.run_bind, Sem.run_pure, Result.andThen, run_callFunc_enter h1 h2 h3]
      rw [hrun]
      show CallsIn _ _ _ _ _ _ _
      have hva : (List.map a.eval c.args.toList ++ vs).toArray = c.args.map a.eval ++ vs.toArray := by
        apply Array.ext'; simp
      rw [hva] at hcalls
      refine CallsIn.mono hcalls fun en w'' ⟨v, ι', h4, h5, h6⟩ => ⟨v, h4, ι', h5, h6⟩
  obtain ⟨c, callee, hop, hcallee⟩ := isCall_inv hc hnc
  · rw [hop] at hc
    simp only [compOp, compCall] at hc
    split at hc
    · rename_i f hcal
      simp only [Option.map_eq_some_iff] at hc
      obtain ⟨xs, hxs, rfl⟩ := hc
      simp only [aOp, Option.map_eq_some_iff] at hr
      obtain ⟨q, hq, rfl⟩ := hr
      exact key hop hcal rfl (.fn .nil) hxs (by simpa using hq) hcl (Cl.nil _)
    · rename_i f hnf hcal
      split at hc
      · rename_i af xs hf hxs
        cases hc
        obtain ⟨hcl1, hcl2⟩ := refsL_nil hcl
        have hfr := opd_sound he hf
        have hfc := av_cl hec (x := af) hcl1
        simp only [aOp] at hr
        split at hr
        · rename_i g cap hg
          simp only [Option.map_eq_some_iff] at hr
          obtain ⟨q, hq, rfl⟩ := hr
          rw [hg] at hfr hfc
          exact key hop hcal rfl hfr hxs hq hcl2 hfc
        · rename_i l hl
          simp only [Option.map_eq_some_iff] at hr
          obtain ⟨q, hq, rfl⟩ := hr
          rw [hl] at hfr
          have hargs := opds_sound he hxs
          generalize hfv : a.eval f = fv at hfr
          cases hfr with
          | yld hloc =>
            rename_i loc
            obtain ⟨rec, h1, h2, h3⟩ := hY ι h w l _ _ q hq H hargs (avs_cl hec hcl2) Hc _ hloc
            have hva : (List.map a.eval c.args.toList).toArray = c.args.map a.eval := by apply Array.ext'; simp
            have hsz : (c.args.map a.eval).size = rec.params.size := by rw [← hva]; simpa using h2
            unfold OpW
            have hrun : (execOp a.eval o).run P w = .ok (.round loc.c rec.fn ((rec.params.zip (c.args.map a.eval)).foldl (fun tmps (t, a) => tmps.setIfInBounds t a) rec.tmps) rec.assign rec.body) w := by
              have hsz' : c.args.size = rec.params.size := by simpa using hsz
              simp [execOp, hop, resolve, hcal, hfv, Deferred.ofValue, invoke, Instr.yield, Instr.getLoop, Sem.run_bind, Sem.run_pure, Result.andThen, run_getObj h1, hsz']
            rw [hrun]
            show RoundIn _ _ _ _ _ _ _ _ _ _
            rw [hva] at h3
            refine RoundIn.mono h3 fun en w'' ⟨v, ι', h4, h5, h6⟩ => ⟨v, h4, ι', h5, h6⟩
        · cases hr
      · cases hc
    all_goals first | (cases hc; done) | (rename_i heq; rw [hcallee] at heq; cases heq; done)
end
end Go.Proofs.Ytocoadpepofbbaa.AM

/-
  THE ABSTRACT OPERATIONS look at their operands alone; what they write they look at.
-/
set_option linter.unusedVariables false
set_option linter.unusedSimpArgs false
namespace Go.Proofs.Ytocoadpepofbbaa.AM
open Go

theorem aBound_congr {e e' : List AV} {d : Nat} {x : Option AOpd} (h : ∀ y ∈ x.toList, av e y = av e' y) : aBound e d x = aBound e' d x := by
  cases x with
  | none => rfl
  | some y => simp only [aBound]; rw [h y (by simp)]
theorem aOp_congr {call : Tgt → List AV → List ABlk → Option Ret} {e e' : List AV} {h : List ABlk} {o : AOp} (hx : ∀ x ∈ aOpnds o, av e x = av e' x) : aOp call e h o = aOp call e' h o := by
  have hl : ∀ xs : List AOpd, (∀ x ∈ xs, av e x = av e' x) → xs.map (av e) = xs.map (av e') := fun xs h => List.map_congr_left h
  have hp : ∀ ps : List (Nat × Nat × AOpd), (∀ x ∈ ps.map (·.2.2), av e x = av e' x) → (ps.map fun p => (p.1, p.2.1, av e p.2.2)) = ps.map fun p => (p.1, p.2.1, av e' p.2.2) := fun ps h =>
    List.map_congr_left fun p hp => by rw [h _ (List.mem_map.2 ⟨p, hp, rfl⟩)]
  cases o with
  | build zs ps => simp only [aOp]; rw [hp ps hx]
  | buildSl zs len ps => simp only [aOp]; rw [hp ps hx]
  | mkFn f cap => simp only [aOp]; rw [hl cap hx]
  | call f xs => simp only [aOp]; rw [hl xs hx]
  | callV f xs => simp only [aOp]; rw [hl xs fun x h => hx x (by simp [aOpnds, h]), hx f (by simp [aOpnds])]
  | mx xs => simp only [aOp]; rw [hl xs hx]
  | mn xs => simp only [aOp]; rw [hl xs hx]
  | slice size x lo hi =>
    simp only [aOp]
    rw [hx x (by simp [aOpnds])]
    have h1 : ∀ d, aBound e d lo = aBound e' d lo := fun d => aBound_congr fun y hy => hx y (by simp [aOpnds]; simp at hy; simp [hy])
    have h2 : ∀ d, aBound e d hi = aBound e' d hi := fun d => aBound_congr fun y hy => hx y (by simp [aOpnds]; simp at hy; simp [hy])
    simp only [h1, h2]
  | sliceS x lo hi =>
    simp only [aOp]
    rw [hx x (by simp [aOpnds])]
    have h1 : ∀ d, aBound e d lo = aBound e' d lo := fun d => aBound_congr fun y hy => hx y (by simp [aOpnds]; simp at hy; simp [hy])
    have h2 : ∀ d, aBound e d hi = aBound e' d hi := fun d => aBound_congr fun y hy => hx y (by simp [aOpnds]; simp at hy; simp [hy])
    simp only [h1, h2]
  | slice3 size x lo hi m =>
    simp only [aOp]
    rw [hx x (by simp [aOpnds]), hx m (by simp [aOpnds])]
    have h1 : ∀ d, aBound e d lo = aBound e' d lo := fun d => aBound_congr fun y hy => hx y (by simp [aOpnds]; simp at hy; simp [hy])
    have h2 : ∀ d, aBound e d hi = aBound e' d hi := fun d => aBound_congr fun y hy => hx y (by simp [aOpnds]; simp at hy; simp [hy])
    simp only [h1, h2]
  | new zs => rfl
  | mkMap ag ks => rfl
  | _ =>
    simp only [aOpnds, List.mem_cons, List.not_mem_nil, or_false, forall_eq_or_imp, forall_eq] at hx
    simp only [aOp, hx]

theorem aOp_noWrite {call : Tgt → List AV → List ABlk → Option Ret} {e : List AV} {h : List ABlk} {o : AOp} {r : OpR} (hr : aOp call e h o = some r) (hw : writesOp o = false) : r.wr = [] := by
  cases o
  all_goals first
    | (simp only [writesOp] at hw; cases hw; done)
    | (simp only [aOp] at hr
       repeat' split at hr
       all_goals first
         | (cases hr; done)
         | (cases hr; rfl)
         | (simp only [Option.map_eq_some_iff] at hr; obtain ⟨_, _, rfl⟩ := hr; rfl))
theorem aOp_noRead {call : Tgt → List AV → List ABlk → Option Ret} {e : List AV} {h : List ABlk} {o : AOp} {r : OpR} (hr : aOp call e h o = some r) (hw : readsOp o = false) : r.acc = some [] := by
  cases o
  all_goals first
    | (simp only [readsOp] at hw; cases hw; done)
    | (simp only [aOp] at hr
       repeat' split at hr
       all_goals first
         | (cases hr; done)
         | (cases hr; rfl)
         | (simp only [Option.map_eq_some_iff] at hr; obtain ⟨_, _, rfl⟩ := hr; rfl))
theorem aOp_wr_acc {call : Tgt → List AV → List ABlk → Option Ret} {e : List AV} {h : List ABlk} {o : AOp} {r : OpR} (hr : aOp call e h o = some r) {acc : List Nat} (ha : r.acc = some acc) : ∀ b ∈ r.wr, b ∈ acc := by
  cases o
  all_goals
    (simp only [aOp] at hr
     repeat' split at hr
     all_goals first
         | (cases hr; done)
         | (cases hr; cases ha <;> (intro b hb; first | (cases hb; done) | (simp at hb; subst hb; simp; done)))
         | (simp only [Option.map_eq_some_iff] at hr; obtain ⟨_, _, rfl⟩ := hr; cases ha <;> (intro b hb; first | (cases hb; done) | (simp at hb; subst hb; simp; done))))
theorem aOp_call_acc {call : Tgt → List AV → List ABlk → Option Ret} {e : List AV} {h : List ABlk} {o : AOp} {r : OpR} (hr : aOp call e h o = some r) (hc : isCall o = true) : r.acc = none := by
  cases o
  all_goals first
    | (simp only [isCall] at hc; cases hc; done)
    | (simp only [aOp] at hr
       repeat' split at hr
       all_goals first
         | (cases hr; done)
         | (simp only [Option.map_eq_some_iff] at hr; obtain ⟨_, _, rfl⟩ := hr; rfl))

end Go.Proofs.Ytocoadpepofbbaa.AM

/-
  A REGION WHOSE OPERATIONS COME IN ANY ORDER that their edges allow: the part on versions, and the single step.
-/
set_option linter.unusedVariables false
set_option linter.unusedSimpArgs false
namespace Go.Proofs.Ytocoadpepofbbaa.AM
open Go

/-! ### the last that has touched -/
noncomputable def last (T : Nat → Prop) : Nat → Nat
  | 0 => 0
  | i + 1 => open Classical in if T i then i + 1 else last T i
theorem last_spec (T : Nat → Prop) : ∀ n, (last T n = 0 ∧ ∀ i, i < n → ¬T i) ∨ ∃ m, m < n ∧ last T n = m + 1 ∧ T m ∧ ∀ i, m < i → i < n → ¬T i
  | 0 => .inl ⟨rfl, fun i hi => by omega⟩
  | n + 1 => by
    by_cases h : T n
    · exact .inr ⟨n, by omega, by simp [last, h], h, fun i h1 h2 => by omega⟩
    · have he : last T (n + 1) = last T n := by simp [last, h]
      rcases last_spec T n with ⟨h1, h2⟩ | ⟨m, h1, h2, h3, h4⟩
      · refine .inl ⟨by rw [he, h1], fun i hi => ?_⟩
        by_cases e : i = n
        · rw [e]; exact h
        · exact h2 i (by omega)
      · refine .inr ⟨m, by omega, by rw [he, h2], h3, fun i h5 h6 => ?_⟩
        by_cases e : i = n
        · rw [e]; exact h
        · exact h4 i h5 (by omega)
theorem last_congr {T T' : Nat → Prop} : ∀ {n : Nat}, (∀ i, i < n → (T i ↔ T' i)) → last T n = last T' n
  | 0, _ => rfl
  | n + 1, h => by
    have ih := last_congr (n := n) fun i hi => h i (by omega)
    have hn := h n (by omega)
    simp only [last, ih]
    by_cases ht : T n
    · rw [if_pos ht, if_pos (hn.1 ht)]
    · rw [if_neg ht, if_neg (fun h => ht (hn.2 h))]
theorem keep_run {α : Type} {x : Nat → α} {tch : Nat → Prop} {n : Nat} (hk : ∀ i, i < n → ¬tch i → x (i + 1) = x i) : ∀ (d m : Nat), m + d ≤ n → (∀ i, m ≤ i → i < m + d → ¬tch i) → x (m + d) = x m
  | 0, m, _, _ => rfl
  | d + 1, m, h, ht => by
    rw [show m + (d + 1) = (m + d) + 1 by omega, hk (m + d) (by omega) (ht _ (by omega) (by omega))]
    exact keep_run hk d m (by omega) fun i h1 h2 => ht i h1 (by omega)
/-- The version that a set of steps gives is the version in the run's own order, where those that matter agree. -/
theorem last_can {α : Type} {x : Nat → α} {tch S : Nat → Prop} {n i : Nat} (hk : ∀ i, i < n → ¬tch i → x (i + 1) = x i) (hi : i ≤ n)
    (h1 : ∀ j, j < i → tch j → S j) (h2 : ∀ j, i ≤ j → j < n → S j → ¬tch j) : x (last (fun j => S j ∧ tch j) n) = x i := by
  rcases last_spec (fun j => S j ∧ tch j) n with ⟨h3, h4⟩ | ⟨m, h3, h4, ⟨h5, h6⟩, h7⟩
  · rw [h3]
    have := keep_run hk i 0 (by omega) (fun j _ hj ht => h4 j (by omega) ⟨h1 j (by omega) ht, ht⟩)
    simpa using this.symm
  · rw [h4]
    have hm : m < i := by
      rcases Nat.lt_or_ge m i with h | h
      · exact h
      · exact absurd h6 (h2 m h h3 h5)
    have := keep_run hk (i - (m + 1)) (m + 1) (by omega) (fun j hj1 hj2 ht => h7 j (by omega) (by omega) ⟨h1 j (by omega) ht, ht⟩)
    rw [show m + 1 + (i - (m + 1)) = i by omega] at this
    exact this.symm
theorem last_add {tch S : Nat → Prop} {n i : Nat} (hi : i < n) (ht : tch i) (h : ∀ j, i < j → j < n → S j → ¬tch j) : last (fun j => (S j ∨ j = i) ∧ tch j) n = i + 1 := by
  rcases last_spec (fun j => (S j ∨ j = i) ∧ tch j) n with ⟨h3, h4⟩ | ⟨m, h3, h4, ⟨h5, h6⟩, h7⟩
  · exact absurd ⟨.inr rfl, ht⟩ (h4 i hi)
  · rw [h4]
    rcases Nat.lt_trichotomy m i with h8 | h8 | h8
    · exact absurd ⟨.inr rfl, ht⟩ (h7 i h8 hi)
    · rw [h8]
    · rcases h5 with h5 | h5
      · exact absurd h6 (h m h8 h3 h5)
      · omega
theorem last_not {tch S : Nat → Prop} {n i : Nat} (ht : ¬tch i) : last (fun j => (S j ∨ j = i) ∧ tch j) n = last (fun j => S j ∧ tch j) n := by
  refine last_congr fun j _ => ⟨fun h => ⟨?_, h.2⟩, fun h => ⟨.inl h.1, h.2⟩⟩
  rcases h.1 with h1 | h1
  · exact h1
  · exact absurd (h1 ▸ h.2) ht

/-! ### masks -/
def maskE (X : Nat → Bool) : Nat → List AV → List AV
  | _, [] => []
  | k, x :: l => (if X k then x else undefA) :: maskE X (k + 1) l
theorem eget_maskE (X : Nat → Bool) : ∀ (l : List AV) (k t : Nat), eget (maskE X k l) t = if X (k + t) then eget l t else undefA
  | [], k, t => by simp [maskE, eget]
  | x :: l, k, 0 => by simp [maskE, eget]
  | x :: l, k, t + 1 => by
    simp only [maskE, eget, eget_maskE X l (k + 1) t]
    rw [show k + 1 + t = k + (t + 1) by omega]
theorem maskE_cl {X : Nat → Bool} {n : Nat} : ∀ {l : List AV} {k : Nat}, Cl n (refsL l) → Cl n (refsL (maskE X k l))
  | [], k, h => h
  | x :: l, k, h => by
    refine Cl.of_mem fun v hv => ?_
    simp only [maskE, List.mem_cons] at hv
    rcases hv with rfl | hv
    · split
      · exact h.mem (by simp)
      · exact undef_cl n
    · exact (maskE_cl (l := l) (k := k + 1) (h.sub fun u hu => by simp [hu])).mem hv
def maskT (X : Nat → Bool) (tmps : Array Value) : Array Value := tmps.mapIdx fun t v => if X t then v else undef
theorem getD_maskT (X : Nat → Bool) (tmps : Array Value) (t : Nat) : (maskT X tmps).getD t undef = if X t then tmps.getD t undef else undef := by
  simp only [maskT, Array.getD_eq_getD_getElem?, Array.getElem?_mapIdx]
  cases tmps[t]? with
  | none => simp
  | some v => simp

theorem stepOp_inv {call : Tgt → List AV → List ABlk → Option Ret} {base : Nat} {o : AOper} {s s' : St} {f : FP} (h : stepOp call base o s = some (s', f)) :
    (wantedA s.e o.guard = true ∧ ∃ r, aOp call s.e s.h o.op = some r ∧ s'.h = r.h ∧ s'.e = (match o.dst with | some d => eset s.e d r.v | none => s.e) ∧ f = ⟨r.wr, r.acc⟩) ∨
    (wantedA s.e o.guard = false ∧ s'.h = s.h ∧ s'.e = (match o.dst with | some d => eset s.e d undefA | none => s.e) ∧ f = ⟨[], some []⟩) := by
  simp only [stepOp] at h
  split at h
  · rename_i hw
    split at h
    · rename_i r hr
      cases h
      exact .inl ⟨hw, r, hr, rfl, rfl, rfl⟩
    · cases h
  · rename_i hw
    cases h
    exact .inr ⟨by simpa using hw, rfl, rfl, rfl⟩

/-- A region's run in its own order, and which of its operations are free of each other. -/
structure Chain (P : Program) (nt : Nat) (call : Tgt → List AV → List ABlk → Option Ret) (W0 : List Nat) (h0 : List ABlk) (ops : Array Oper) (as : List AOper) (an : Nat → List Nat) (s : Nat → St) (fp : Nat → FP) : Prop where
  comp : ∀ (i : Nat) (o : Oper), ops[i]? = some o → ∃ ao, as[i]? = some ao ∧ compOper P ops.toList nt o = some ao
  step : ∀ (i : Nat) (ao : AOper), as[i]? = some ao → stepOp call h0.length ao (s i) = some (s (i + 1), fp i)
  cl : ∀ i, i ≤ ops.size → SCl W0 h0 (s i)
  anc : ∀ (j : Nat) (o : Oper), ops[j]? = some o → ∀ i ∈ an j, ∃ e ∈ o.after, Region.binds .any e = true ∧ (i = e.on ∨ i ∈ an e.on)
  aft : ∀ (j : Nat) (o : Oper), ops[j]? = some o → ∀ e ∈ o.after, Region.binds .any e = true → e.on < j
  free : ∀ (i j : Nat) (x y : Oper) (ax ay : AOper), i < j → ops[i]? = some x → ops[j]? = some y → as[i]? = some ax → as[j]? = some ay → i ∉ an j → slotsApart ops.toList x y ax ay = true ∧ apartFP (fp i) (fp j) = true

theorem apartFP_spec {f g : FP} (h : apartFP f g = true) : (∀ b, b ∈ f.wr → ∃ l, g.acc = some l ∧ b ∉ l) ∧ (∀ b, b ∈ g.wr → ∃ l, f.acc = some l ∧ b ∉ l) := by
  simp only [apartFP, Bool.and_eq_true] at h
  have one : ∀ (acc : Option (List Nat)) (wr : List Nat), (match acc with | some l => l.all fun b => !wr.contains b | none => wr.isEmpty) = true → ∀ b, b ∈ wr → ∃ l, acc = some l ∧ b ∉ l := by
    intro acc wr ha b hb
    cases acc with
    | none => simp at ha; subst ha; cases hb
    | some l =>
      refine ⟨l, rfl, fun hbl => ?_⟩
      have := List.all_eq_true.1 ha b hbl
      simp [hb] at this
  exact ⟨one _ _ h.1, one _ _ h.2⟩

theorem slotsApart_spec {os : List Oper} {x y : Oper} {ax ay : AOper} (h : slotsApart os x y ax ay = true) : (∀ d, x.dst = some d → d ∉ slotsOf os y ay) ∧ (∀ d, y.dst = some d → d ∉ slotsOf os x ax) := by
  simp only [slotsApart, Bool.and_eq_true] at h
  refine ⟨fun d hd => ?_, fun d hd => ?_⟩
  · have := h.1; rw [hd] at this; simpa using this
  · have := h.2; rw [hd] at this; simpa using this

theorem compOper_inv {P : Program} {os : List Oper} {nt : Nat} {o : Oper} {ao : AOper} (h : compOper P os nt o = some ao) :
    compOp P o.op = some ao.op ∧ ao.dst = o.dst ∧ clOp ao.op = true ∧ (∀ d, o.dst = some d → d < nt) ∧
    ((o.guard = none ∧ ao.guard = none) ∨ ∃ j w g t, o.guard = some (j, w) ∧ os[j]? = some g ∧ g.dst = some t ∧ ao.guard = some (t, w)) := by
  simp only [compOper] at h
  split at h
  · cases h
  · rename_i a ha
    split at h
    · rename_i hd
      simp only [Bool.and_eq_true] at hd
      have hd' : ∀ d, o.dst = some d → d < nt := fun d hd'' => by
        have := hd.1; rw [hd''] at this; simpa [dstOk] using this
      split at h
      · rename_i hg
        cases h
        exact ⟨ha, rfl, hd.2, hd', .inl ⟨hg, rfl⟩⟩
      · rename_i j w hg
        split at h
        · rename_i g hgj
          split at h
          · rename_i t ht
            cases h
            exact ⟨ha, rfl, hd.2, hd', .inr ⟨j, w, g, t, hg, hgj, ht, rfl⟩⟩
          · cases h
        · cases h
    · cases h

theorem wanted_rel {P : Program} {nt : Nat} {ops : Array Oper} {o : Oper} {ao : AOper} {e : List AV} {tmps : Array Value} {ι : Emb} (hc : compOper P ops.toList nt o = some ao)
    (he : ∀ t, ao.guard.map (·.1) = some t → VRel ι (eget e t) (tmps.getD t undef)) : Region.wanted o (yielded ops tmps) = wantedA e ao.guard := by
  obtain ⟨_, _, _, _, hg⟩ := compOper_inv hc
  rcases hg with ⟨h1, h2⟩ | ⟨j, w, g, t, h1, h2, h3, h4⟩
  · simp [Region.wanted, h1, h2, wantedA]
  · have hv := he t (by rw [h4]; rfl)
    have hj : ops[j]? = some g := by simpa using h2
    simp only [Region.wanted, h1, h4, wantedA, yielded, hj, Option.bind_some, h3]
    rw [Array.getD_eq_getD_getElem?] at hv
    cases ht : tmps[t]? with
    | none =>
      rw [ht] at hv
      simp only [Option.getD_none, undef] at hv
      generalize eget e t = v at hv
      cases hv
      simp
    | some x =>
      rw [ht] at hv
      simp only [Option.getD_some] at hv
      generalize eget e t = v at hv
      cases hv <;> simp

end Go.Proofs.Ytocoadpepofbbaa.AM

/-
  A REGION WHOSE OPERATIONS COME IN ANY ORDER: the invariant and its step.
-/
set_option linter.unusedVariables false
set_option linter.unusedSimpArgs false
namespace Go.Proofs.Ytocoadpepofbbaa.AM
open Go

def tB (s : Nat → St) (fp : Nat → FP) (b i : Nat) : Prop := b ∈ (fp i).wr ∨ ((s i).h[b]? = none ∧ (s (i + 1)).h[b]? ≠ none)
def tE (as : List AOper) (t i : Nat) : Prop := ∃ ao, as[i]? = some ao ∧ ao.dst = some t
noncomputable def curH (s : Nat → St) (fp : Nat → FP) (n : Nat) (S : Nat → Prop) (b : Nat) : Option ABlk := (s (last (fun i => S i ∧ tB s fp b i) n)).h[b]?
noncomputable def curE (s : Nat → St) (as : List AOper) (n : Nat) (S : Nat → Prop) (t : Nat) : AV := eget (s (last (fun i => S i ∧ tE as t i) n)).e t

structure Inv (P : Program) (B nt : Nat) (ι0 : Emb) (w0 : World) (D : List Deferred) (n : Nat) (as : List AOper) (an : Nat → List Nat) (s : Nat → St) (fp : Nat → FP) (S : Nat → Prop) (a : Act) (w : World) (ι : Emb) (W : List Nat) : Prop where
  size : a.tmps.size = nt
  tm : ∀ t, VRel ι (curE s as n S t) (a.tmps.getD t undef)
  ext : ExtF P B ι0 (fun b => (s 0).h[b]?) w0 W ι (curH s fp n S) w
  wd : ∀ b, b ∈ W ↔ (b < (s 0).h.length ∧ ∃ j, j < n ∧ S j ∧ b ∈ (fp j).wr)
  wx : ∀ j, j < n → S j → ∀ b ∈ (fp j).wr, ∀ i, i < n → (s i).h[b]? = none → (s (i + 1)).h[b]? ≠ none → S i
  cl : ∀ j, j < n → S j → ∀ i ∈ an j, S i
  dfr : a.defers = D

theorem lt_size {ops : Array Oper} {i : Nat} {o : Oper} (h : ops[i]? = some o) : i < ops.size := by
  rcases Nat.lt_or_ge i ops.size with h' | h'
  · exact h'
  · rw [Array.getElem?_eq_none h'] at h; cases h
theorem get_op {ops : Array Oper} {i : Nat} (h : i < ops.size) : ∃ o, ops[i]? = some o := ⟨ops[i], by simp [h]⟩

section
variable {P : Program} {B nt : Nat} {call : Tgt → List AV → List ABlk → Option Ret} {W0 : List Nat} {h0 : List ABlk} {ops : Array Oper} {as : List AOper} {an : Nat → List Nat} {s : Nat → St} {fp : Nat → FP}

theorem Chain.facts (C : Chain P nt call W0 h0 ops as an s fp) (hcl : CallCl call) {i : Nat} (hi : i < ops.size) :
    (s i).h.length ≤ (s (i + 1)).h.length ∧ (∀ b : Nat, b < (s i).h.length → b ∉ (fp i).wr → (s (i + 1)).h[b]? = (s i).h[b]?) ∧
    (∀ acc, (fp i).acc = some acc → ∀ b ∈ (fp i).wr, b ∈ acc) ∧ (∀ t, ¬tE as t i → eget (s (i + 1)).e t = eget (s i).e t) := by
  obtain ⟨o, ho⟩ := get_op hi
  obtain ⟨ao, hao, hc⟩ := C.comp i o ho
  have hst := C.step i ao hao
  have hS := C.cl i (by omega)
  have slot : ∀ (v : AV) (e' : List AV), e' = (match ao.dst with | some d => eset (s i).e d v | none => (s i).e) → ∀ t, ¬tE as t i → eget e' t = eget (s i).e t := by
    intro v e' he t ht
    subst he
    cases hd : ao.dst with
    | none => rfl
    | some d =>
      simp only [eget_eset]
      rw [if_neg]
      intro e
      exact ht ⟨ao, hao, by rw [hd, e]⟩
  rcases stepOp_inv hst with ⟨_, r, hr, h1, h2, h3⟩ | ⟨_, h1, h2, h3⟩
  · have O := aOp_cl hcl hr hS.e hS.hh (compOper_inv hc).2.2.1
    rw [h1, h3]
    exact ⟨O.len, O.keep, fun acc ha => aOp_wr_acc hr ha, slot r.v _ h2⟩
  · rw [h1, h3]
    refine ⟨Nat.le_refl _, fun _ _ _ => rfl, ?_, slot undefA _ h2⟩
    intro acc _ b hb
    cases hb

theorem Chain.lenMono (C : Chain P nt call W0 h0 ops as an s fp) (hcl : CallCl call) : ∀ (d i : Nat), i + d ≤ ops.size → (s i).h.length ≤ (s (i + d)).h.length
  | 0, i, _ => Nat.le_refl _
  | d + 1, i, h => Nat.le_trans (C.lenMono hcl d i (by omega)) (C.facts hcl (i := i + d) (by omega)).1
theorem Chain.lenLe (C : Chain P nt call W0 h0 ops as an s fp) (hcl : CallCl call) {i j : Nat} (hij : i ≤ j) (hj : j ≤ ops.size) : (s i).h.length ≤ (s j).h.length := by
  have := C.lenMono hcl (j - i) i (by omega)
  rwa [show i + (j - i) = j by omega] at this
theorem Chain.keepH (C : Chain P nt call W0 h0 ops as an s fp) (hcl : CallCl call) {b i : Nat} (hi : i < ops.size) (ht : ¬tB s fp b i) : (s (i + 1)).h[b]? = (s i).h[b]? := by
  obtain ⟨h1, h2, _, _⟩ := C.facts hcl hi
  have hw : b ∉ (fp i).wr := fun h => ht (.inl h)
  by_cases hb : b < (s i).h.length
  · exact h2 b hb hw
  · have h3 : (s i).h[b]? = none := get_none.2 (by omega)
    by_cases h4 : (s (i + 1)).h[b]? = none
    · rw [h3, h4]
    · exact absurd (.inr ⟨h3, h4⟩) ht

variable {ι0 ι : Emb} {w0 w : World} {D : List Deferred} {S : Nat → Prop} {a : Act} {W : List Nat}

/-- What is there has been made by an operation that has come. -/
theorem Inv.cre (C : Chain P nt call W0 h0 ops as an s fp) (hcl : CallCl call) (I : Inv P B nt ι0 w0 D ops.size as an s fp S a w ι W) {b : Nat} (hb : curH s fp ops.size S b ≠ none) {j : Nat} (hj : j < ops.size)
    (h1 : (s j).h[b]? = none) (h2 : (s (j + 1)).h[b]? ≠ none) : S j := by
  rcases last_spec (fun i => S i ∧ tB s fp b i) ops.size with ⟨h3, h4⟩ | ⟨m, h3, h4, ⟨h5, h6⟩, h7⟩
  · exfalso
    apply hb
    unfold curH
    rw [h3]
    have := C.lenLe hcl (i := 0) (j := j) (by omega) (by omega)
    have := get_none.1 h1
    exact get_none.2 (by omega)
  · unfold curH at hb
    rw [h4] at hb
    have hbl := get_none.1 h1
    by_cases e : m = j
    · exact e ▸ h5
    · have hmj : j < m := by
        rcases Nat.lt_or_ge j m with h | h
        · exact h
        · exfalso
          apply hb
          have := C.lenLe hcl (i := m + 1) (j := j) (by omega) (by omega)
          exact get_none.2 (by omega)
      rcases h6 with h6 | ⟨h6, _⟩
      · exact I.wx m h3 h5 b h6 j hj h1 h2
      · exfalso
        have := C.lenLe hcl (i := j + 1) (j := m) (by omega) (by omega)
        have h8 := get_none.1 h6
        apply h2
        exact get_none.2 (by omega)

theorem Inv.anS (C : Chain P nt call W0 h0 ops as an s fp) (I : Inv P B nt ι0 w0 D ops.size as an s fp S a w ι W) {i : Nat} {o : Oper} (hi : ops[i]? = some o) (hready : ∀ e ∈ o.after, Region.binds .any e = true → S e.on) : ∀ j ∈ an i, S j := by
  intro j hj
  obtain ⟨e, he, hb, h1⟩ := C.anc i o hi j hj
  rcases h1 with rfl | h1
  · exact hready e he hb
  · have hlt := C.aft i o hi e he hb
    exact I.cl e.on (by have := lt_size hi; omega) (hready e he hb) j h1

theorem Inv.step (C : Chain P nt call W0 h0 ops as an s fp) (hcl : CallCl call) (hF : OkF P B call) (hY : OkY P B call) (H0 : HRel P B ι0 (s 0).h w0) (I : Inv P B nt ι0 w0 D ops.size as an s fp S a w ι W)
    {i : Nat} {o : Oper} (hi : ops[i]? = some o) (hni : ¬S i) (hready : ∀ e ∈ o.after, Region.binds .any e = true → S e.on) :
    (Region.wanted o (yielded ops a.tmps) = false → ∃ ι' W', Inv P B nt ι0 w0 D ops.size as an s fp (fun j => S j ∨ j = i) (a.put o.dst undef) w ι' W') ∧
    (Region.wanted o (yielded ops a.tmps) = true → OpW P o a w fun v w' => ∃ ι' W', Inv P B nt ι0 w0 D ops.size as an s fp (fun j => S j ∨ j = i) (a.put o.dst v) w' ι' W') := by
  have hin := lt_size hi
  obtain ⟨ao, hao, hc⟩ := C.comp i o hi
  obtain ⟨hop, hdst, hclo, hdlt, hguard⟩ := compOper_inv hc
  have hst := C.step i ao hao
  have hS := C.cl i (by omega)
  have HF := I.ext.hrel H0.toF
  have anS := I.anS C hi hready
  obtain ⟨_, _, hacc, _⟩ := C.facts hcl hin
  -- free of each other
  have freeL : ∀ j x ax, j < i → ¬S j → ops[j]? = some x → as[j]? = some ax → slotsApart ops.toList x o ax ao = true ∧ apartFP (fp j) (fp i) = true :=
    fun j x ax hj hnS hx hax => C.free j i x o ax ao hj hx hi hax hao fun h => hnS (anS j h)
  have freeR : ∀ j x ax, i < j → S j → ops[j]? = some x → as[j]? = some ax → slotsApart ops.toList o x ao ax = true ∧ apartFP (fp i) (fp j) = true :=
    fun j x ax hj hSj hx hax => C.free i j o x ao ax hj hi hx hao hax fun h => hni (I.cl j (lt_size hx) hSj i h)
  have getj : ∀ j, j < ops.size → ∃ x ax, ops[j]? = some x ∧ as[j]? = some ax ∧ ax.dst = x.dst := by
    intro j hj
    obtain ⟨x, hx⟩ := get_op hj
    obtain ⟨ax, hax, hcx⟩ := C.comp j x hx
    exact ⟨x, ax, hx, hax, (compOper_inv hcx).2.1⟩
  -- slots
  have slotNow : ∀ t, t ∈ slotsOf ops.toList o ao → curE s as ops.size S t = eget (s i).e t := by
    intro t ht
    refine last_can (x := fun i => eget (s i).e t) (tch := tE as t) (fun j hj hnt => (C.facts hcl hj).2.2.2 t hnt) (by omega) ?_ ?_
    · rintro j hj ⟨ax, hax, hd⟩
      refine Classical.byContradiction fun hnS => ?_
      obtain ⟨x, ax', hx, hax', hdx⟩ := getj j (by omega)
      rw [hax] at hax'; cases hax'
      exact (slotsApart_spec (freeL j x ax hj hnS hx hax).1).1 t (by rw [← hdx, hd]) ht
    · rintro j hij hjn hSj ⟨ax, hax, hd⟩
      have hlt : i < j := by
        rcases Nat.lt_or_ge i j with h | h
        · exact h
        · exact absurd hSj (by rw [show j = i by omega]; exact hni)
      obtain ⟨x, ax', hx, hax', hdx⟩ := getj j hjn
      rw [hax] at hax'; cases hax'
      exact (slotsApart_spec (freeR j x ax hlt hSj hx hax).1).2 t (by rw [← hdx, hd]) ht
  have slotLater : ∀ t, tE as t i → ∀ j, i < j → j < ops.size → S j → ¬tE as t j := by
    rintro t ⟨ax0, hax0, hd0⟩ j hij hjn hSj ⟨ax, hax, hd⟩
    rw [hao] at hax0; cases hax0
    obtain ⟨x, ax', hx, hax', hdx⟩ := getj j hjn
    rw [hax] at hax'; cases hax'
    refine (slotsApart_spec (freeR j x ax hij hSj hx hax).1).1 t (by rw [← hdst, hd0]) ?_
    simp [slotsOf, ← hdx, hd]
  -- blocks
  have blkNow : ∀ b : Nat, (s i).h[b]? ≠ none → curH s fp ops.size S b ≠ none → ((fp i).acc = none ∨ ∃ l, (fp i).acc = some l ∧ b ∈ l) → curH s fp ops.size S b = (s i).h[b]? := by
    intro b hb hex ha
    have noacc : ¬∃ l, (fp i).acc = some l ∧ b ∉ l := by
      rintro ⟨l, h1, h2⟩
      rcases ha with ha | ⟨l', ha, hb'⟩
      · rw [ha] at h1; cases h1
      · rw [ha] at h1; cases h1
        exact h2 hb'
    refine last_can (x := fun i => (s i).h[b]?) (tch := tB s fp b) (fun j hj hnt => C.keepH hcl hj hnt) (by omega) ?_ ?_
    · intro j hj ht
      refine Classical.byContradiction fun hnS => ?_
      rcases ht with ht | ⟨h1, h2⟩
      · obtain ⟨x, ax, hx, hax, hdx⟩ := getj j (by omega)
        exact noacc ((apartFP_spec (freeL j x ax hj hnS hx hax).2).1 b ht)
      · exact hnS (I.cre C hcl hex (by omega) h1 h2)
    · intro j hij hjn hSj ht
      have hlt : i < j := by
        rcases Nat.lt_or_ge i j with h | h
        · exact h
        · exact absurd hSj (by rw [show j = i by omega]; exact hni)
      rcases ht with ht | ⟨h1, h2⟩
      · obtain ⟨x, ax, hx, hax, hdx⟩ := getj j hjn
        exact noacc ((apartFP_spec (freeR j x ax hlt hSj hx hax).2).2 b ht)
      · apply hb
        have := C.lenLe hcl (i := i) (j := j) (by omega) (by omega)
        have := get_none.1 h1
        exact get_none.2 (by omega)
  have wrAcc : ∀ b ∈ (fp i).wr, (fp i).acc = none ∨ ∃ l, (fp i).acc = some l ∧ b ∈ l := by
    intro b hb
    cases ha : (fp i).acc with
    | none => exact .inl rfl
    | some l => exact .inr ⟨l, rfl, hacc l ha b hb⟩
  have notThere : ∀ b : Nat, curH s fp ops.size S b = none → ∀ g, ι b g = none := by
    intro b hb g
    cases hg : ι b g with
    | none => rfl
    | some l =>
      obtain ⟨_, k, hk, _⟩ := HF.dom _ _ _ hg
      rw [hb] at hk; cases hk
  -- the guard
  have hwant : Region.wanted o (yielded ops a.tmps) = wantedA (s i).e ao.guard := by
    refine wanted_rel (ι := ι) hc fun t ht => ?_
    rcases hguard with ⟨h1, h2⟩ | ⟨j, wn, g, t', h1, h2, h3, h4⟩
    · rw [h2] at ht; cases ht
    · rw [h4] at ht; cases ht
      rw [← slotNow t' (by simp only [slotsOf, h1, h2, h3]; simp)]
      exact I.tm t'
  -- the new invariant, from a step's outcome
  have slots' : ∀ {ι' : Emb} {v : AV} {x : Value}, Sub ι ι' → VRel ι' v x → (s (i + 1)).e = (match ao.dst with | some d => eset (s i).e d v | none => (s i).e) →
      ((a.put o.dst x).tmps.size = nt ∧ ∀ t, VRel ι' (curE s as ops.size (fun j => S j ∨ j = i) t) ((a.put o.dst x).tmps.getD t undef)) := by
    intro ι' v x hsub hv he
    refine ⟨by cases o.dst <;> simp [Act.put, I.size], fun t => ?_⟩
    by_cases ht : tE as t i
    · have hd : ao.dst = some t := by obtain ⟨ax, hax, hd⟩ := ht; rw [hao] at hax; cases hax; exact hd
      have hlt := hdlt t (by rw [← hdst, hd])
      unfold curE
      rw [last_add hin ht (slotLater t ht), he, hd, eget_eset, if_pos rfl, ← hdst, hd]
      simp only [Act.put, Array.getD_eq_getD_getElem?, Array.getElem?_setIfInBounds]
      rw [if_pos trivial, if_pos (by rw [I.size]; exact hlt)]
      exact hv
    · unfold curE
      rw [last_not ht]
      have hne : ∀ d, o.dst = some d → d ≠ t := fun d hd e => ht ⟨ao, hao, by rw [hdst, hd, e]⟩
      have hg : (a.put o.dst x).tmps.getD t undef = a.tmps.getD t undef := by
        cases hd : o.dst with
        | none => rfl
        | some d =>
          simp only [Act.put, Array.getD_eq_getD_getElem?, Array.getElem?_setIfInBounds]
          rw [if_neg (hne d hd)]
      rw [hg]
      exact (I.tm t).mono hsub
  have cl' : ∀ j, j < ops.size → (S j ∨ j = i) → ∀ k ∈ an j, (S k ∨ k = i) := by
    rintro j hj (hSj | rfl) k hk
    · exact .inl (I.cl j hj hSj k hk)
    · exact .inl (anS k hk)
  have dfr' : ∀ x, (a.put o.dst x).defers = D := fun x => by cases o.dst <;> exact I.dfr
  refine ⟨fun hw => ?_, fun hw => ?_⟩
  · -- not wanted
    rw [hwant] at hw
    rcases stepOp_inv hst with ⟨hw', _⟩ | ⟨_, h1, h2, h3⟩
    · rw [hw] at hw'; cases hw'
    obtain ⟨hsz, htm⟩ := slots' (Sub.refl ι) (undef_rel ι) h2
    have hnot : ∀ b, ¬tB s fp b i := by
      rintro b (h | ⟨h4, h5⟩)
      · rw [h3] at h; cases h
      · rw [h1] at h5; exact h5 h4
    have hcur : curH s fp ops.size (fun j => S j ∨ j = i) = curH s fp ops.size S := funext fun b => by unfold curH; rw [last_not (hnot b)]
    refine ⟨ι, W, hsz, htm, by rw [hcur]; exact I.ext, ?_, ?_, cl', dfr' _⟩
    · intro b
      rw [I.wd]
      refine and_congr_right fun _ => ⟨fun ⟨j, h4, h5, h6⟩ => ⟨j, h4, .inl h5, h6⟩, fun ⟨j, h4, h5, h6⟩ => ?_⟩
      rcases h5 with h5 | rfl
      · exact ⟨j, h4, h5, h6⟩
      · rw [h3] at h6; cases h6
    · rintro j hj (hSj | rfl) b hb k hk h4 h5
      · exact .inl (I.wx j hj hSj b hb k hk h4 h5)
      · rw [h3] at hb; cases hb
  · -- wanted
    rw [hwant] at hw
    rcases stepOp_inv hst with ⟨_, r, hr, h1, h2, h3⟩ | ⟨hw', _⟩
    rotate_left
    · rw [hw] at hw'; cases hw'
    have hwr : (fp i).wr = r.wr := by rw [h3]
    have hac : (fp i).acc = r.acc := by rw [h3]
    -- the masked activation
    let X : Nat → Bool := fun t => (slotsOf ops.toList o ao).contains t
    have hX : ∀ t, X t = true ↔ t ∈ slotsOf ops.toList o ao := fun t => by simp [X]
    let a' : Act := { a with tmps := maskT X a.tmps }
    have hopnd : ∀ x ∈ o.op.operands, a.eval x = a'.eval x := by
      intro x hx
      cases x with
      | tmp t =>
        show a.tmps.getD t undef = (maskT X a.tmps).getD t undef
        rw [getD_maskT, if_pos]
        rw [hX]
        refine List.mem_append_left _ (List.mem_append_left _ (List.mem_append_right _ ?_))
        exact List.mem_filterMap.2 ⟨.tmp t, by simpa using hx, rfl⟩
      | _ => rfl
    have hr' : aOp call (maskE X 0 (s i).e) (s i).h ao.op = some r := by
      rw [← hr]
      refine aOp_congr fun x hx => ?_
      cases x with
      | t t =>
        show eget _ t = eget _ t
        rw [eget_maskE, if_pos]
        rw [Nat.zero_add, hX]
        refine List.mem_append_right _ ?_
        exact List.mem_filterMap.2 ⟨.t t, hx, rfl⟩
      | c v => rfl
    have hE : ERel ι nt (maskE X 0 (s i).e) a'.tmps := by
      refine ⟨by simp [a', maskT, I.size], fun t => ?_⟩
      show VRel ι _ ((maskT X a.tmps).getD t undef)
      rw [eget_maskE, getD_maskT, Nat.zero_add]
      split
      · rename_i hx
        rw [← slotNow t ((hX t).1 hx)]
        exact I.tm t
      · exact undef_rel ι
    have hE' : ERel (rst (s i).h.length ι) nt (maskE X 0 (s i).e) a'.tmps := hE.rst (maskE_cl hS.e)
    have hblk : ∀ b k, (s i).h[b]? = some k → (r.acc = none ∨ ∃ l, r.acc = some l ∧ b ∈ l) → BRel P B (rst (s i).h.length ι) w b k := by
      intro b k hk ha
      by_cases hex : curH s fp ops.size S b = none
      · refine BRel.none fun g => ?_
        have hlt := lt_of_get hk
        rw [rst_at hlt]
        exact notThere b hex g
      · have h5 := blkNow b (by rw [hk]; simp) hex (by rw [hac]; exact ha)
        exact (HF.blk b k (by rw [h5]; exact hk)).rst (hS.hh.at hk)
    have hcomes : OpW P o a' w (Comes P B (rst (s i).h.length ι) (s i).h w r) := by
      by_cases hic : isCall ao.op = true
      · have hnone := aOp_call_acc hr hic
        refine opW_call hF hY hop hclo hic hE' hr' ⟨fun b k hk => hblk b k hk (.inl hnone), ?_, ?_, HF.hB⟩ (maskE_cl hS.e) hS.hh
        · intro b g l hl
          have hlt : b < (s i).h.length := by
            rcases Nat.lt_or_ge b (s i).h.length with h | h
            · exact h
            · rw [rst_out h] at hl; cases hl
          rw [rst_at hlt] at hl
          obtain ⟨h5, k, h6, h7⟩ := HF.dom _ _ _ hl
          refine ⟨h5, k, ?_, h7⟩
          rw [← h6]
          exact (blkNow b (by simp [hlt]) (by rw [h6]; simp) (.inl (by rw [hac]; exact hnone))).symm
        · intro b b' k k' l l' hk hk' hl hl' ho hne
          have hl0 := rst_sub _ _ _ _ _ hl
          have hl0' := rst_sub _ _ _ _ _ hl'
          have e1 : curH s fp ops.size S b = some k := by
            rw [blkNow b (by rw [hk]; simp) (fun h => by rw [notThere b h] at hl0; cases hl0) (.inl (by rw [hac]; exact hnone))]; exact hk
          have e2 : curH s fp ops.size S b' = some k' := by
            rw [blkNow b' (by rw [hk']; simp) (fun h => by rw [notThere b' h] at hl0'; cases hl0') (.inl (by rw [hac]; exact hnone))]; exact hk'
          exact HF.inj b b' k k' l l' e1 e2 hl0 hl0' ho hne
      · refine opW_plain hop (by simpa using hic) hE' hr' (fun acc ha b hb k hk => hblk b k hk (.inr ⟨acc, ha, hb⟩)) (fun g => rst_out (Nat.le_refl _)) HF.hB ?_
        intro b hb k k' hk hk' hlt
        cases hg : rst (s i).h.length ι b (bgen k') with
        | none => rfl
        | some l =>
          exfalso
          obtain ⟨_, kk, h5, h6⟩ := HF.dom _ _ _ (rst_sub _ _ _ _ _ hg)
          have h7 := blkNow b (by rw [hk]; simp) (by rw [h5]; simp) (wrAcc b (by rw [hwr]; exact hb))
          rw [h5, hk] at h7
          cases h7
          omega
    refine (OpW.congr (fun cs b h => by rw [h] at hop; cases hop) hopnd hcomes).mono ?_
    rintro v w' ⟨ι1, hv, E⟩
    rw [← hwr, ← h1] at E
    have EF := E.toF
    have wrSome : ∀ b ∈ (fp i).wr, (s i).h[b]? ≠ none ∧ curH s fp ops.size S b ≠ none := by
      intro b hb
      obtain ⟨k, l, hk, hl⟩ := E.wrd b hb
      refine ⟨by rw [hk]; simp, fun h => ?_⟩
      have := notThere b h (bgen k)
      rw [rst_sub _ _ _ _ _ hl] at this
      cases this
    have hnew : ∀ b, curH s fp ops.size (fun j => S j ∨ j = i) b = if b ∈ (fp i).wr ∨ ((s i).h[b]? = none ∧ (s (i + 1)).h[b]? ≠ none) then (s (i + 1)).h[b]? else curH s fp ops.size S b := by
      intro b
      by_cases ht : tB s fp b i
      · rw [if_pos (show b ∈ (fp i).wr ∨ ((s i).h[b]? = none ∧ (s (i + 1)).h[b]? ≠ none) from ht)]
        unfold curH
        rw [last_add hin ht]
        intro j hij hjn hSj htj
        obtain ⟨x, ax, hx, hax, hdx⟩ := getj j hjn
        rcases ht with ht | ⟨h5, h6⟩
        · rcases htj with htj | ⟨h7, h8⟩
          · obtain ⟨l, h9, h10⟩ := (apartFP_spec (freeR j x ax hij hSj hx hax).2).2 b htj
            exact h10 (hacc l h9 b ht)
          · have := C.lenLe hcl (i := i) (j := j) (by omega) (by omega)
            have := get_none.1 h7
            exact (wrSome b ht).1 (get_none.2 (by omega))
        · rcases htj with htj | ⟨h7, h8⟩
          · exact hni (I.wx j hjn hSj b htj i hin h5 h6)
          · have := C.lenLe hcl (i := i + 1) (j := j) (by omega) (by omega)
            have := get_none.1 h7
            exact h6 (get_none.2 (by omega))
      · rw [if_neg (show ¬(b ∈ (fp i).wr ∨ ((s i).h[b]? = none ∧ (s (i + 1)).h[b]? ≠ none)) from ht)]
        unfold curH
        rw [last_not ht]
    obtain ⟨hs1, F⟩ := EF.lift (ι := ι) (h := curH s fp ops.size S) (h' := curH s fp ops.size (fun j => S j ∨ j = i)) HF (rst_sub _ _)
      (fun b g l hl hb => by
        have hlt : b < (s i).h.length := by
          rcases Nat.lt_or_ge b (s i).h.length with h | h
          · exact h
          · exact absurd (get_none.2 h) hb
        rw [rst_at hlt]; exact hl)
      (fun b hb => blkNow b (wrSome b hb).1 (wrSome b hb).2 (wrAcc b hb))
      (fun b k hk hb => Classical.byContradiction fun hne => hni (I.cre C hcl hne hin hb (by
        show (s (i + 1)).h[b]? ≠ none
        rw [show (s (i + 1)).h[b]? = some k from hk]; simp)))
      hnew
    obtain ⟨hsz, htm⟩ := slots' F.sub (hv.mono hs1) h2
    refine ⟨_, W ++ (fp i).wr.filter (· < (s 0).h.length), hsz, htm, I.ext.trans H0.toF F ?_, ?_, ?_, cl', dfr' _⟩
    · intro b
      rw [List.mem_append, List.mem_filter]
      refine or_congr_right (and_congr_right fun _ => ?_)
      simp
    · intro b
      rw [List.mem_append, List.mem_filter, I.wd]
      constructor
      · rintro (⟨h5, j, h6, h7, h8⟩ | ⟨h5, h6⟩)
        · exact ⟨h5, j, h6, .inl h7, h8⟩
        · exact ⟨by simpa using h6, i, hin, .inr rfl, h5⟩
      · rintro ⟨h5, j, h6, h7 | rfl, h8⟩
        · exact .inl ⟨h5, j, h6, h7, h8⟩
        · exact .inr ⟨h8, by simpa using h5⟩
    · rintro j hj (hSj | rfl) b hb k hk h5 h6
      · exact .inl (I.wx j hj hSj b hb k hk h5 h6)
      · exact .inl (I.cre C hcl (wrSome b hb).2 hk h5 h6)
end

end Go.Proofs.Ytocoadpepofbbaa.AM
