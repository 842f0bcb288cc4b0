/-
  'OutsideStays': THE STATEMENT.
-/
import Derived.Test.YtocoadpepofbbaaG20
import Derived.Test.YtocoadpepofbbaaG22
import Derived.Test.YtocoadpepofbbaaG21
set_option linter.unusedVariables false
set_option linter.unusedSimpArgs false
set_option maxRecDepth 100000
namespace Go.Proofs.Ytocoadpepofbbaa.AM
open Go Go.ChangeShapes Go.WideShapes Go.ChangeAt Go.RowKit

theorem outsideStays_lifted (os : Os) (started : os.Started) (H : Type) (enc : TypeId × Value → H) :
    ReturnsInHanded {} Try.checked os 7 .any (Rows.outsideStaysSpec.pre6 enc Try.prog Try.f7 Rows.outsideStaysRow.domain false) (Rows.outsideStaysSpec.post enc Try.prog Try.f7 false true false false) := by
  refine returnsInHanded_of_calls (C := Try.checked) knob started (by kernel_rfl)
    (ChangeSpec.witness6 (enc := enc) (C := Try.checked) false ⟨#[], #[.agg #[.slice none 0 0, .int .i64 0], .int .i64 0], []⟩ 8 (by kernel_rfl) (by kernel_rfl) (by kernel_rfl) (by kernel_rfl)) ?_
  intro w tape i _ _ _ hok hpre _
  obtain ⟨_, _, _, fn', hfn', _, _, _, _, hval0⟩ := hok
  have e : fn' = Try.f7 := Option.some.inj (hfn'.symm.trans Try.func7)
  subst e
  obtain ⟨⟨ds, gs, before, hw, hc⟩, hz⟩ := hpre
  have hsz0 := hz.weights hw
  have hW := DataW.Whole.of_heap (w' := w.forCall tape i) (by rfl) hw
  have hval : ∀ (j : Nat) t v, Try.f7.params[j]? = some t → i.args[j]? = some v → Value.okWide Try.prog (w.forCall tape i) .any w.heap.size t v := hval0
  have hW' : DataW.Whole enc Try.prog Try.f7.params.toList [] false (w.forCall tape i) i.args.toList ds gs before := hW
  obtain ⟨p, q, hA, hV, hbe, _, _⟩ := hW'
  obtain ⟨rfl, rfl⟩ := trodVars_none hV
  have hsz : (DataW.weightsEach Try.prog (Try.f7.params.toList ++ []) (ds ++ [])).all (· ≤ reachBytes) = true := hsz0
  rw [Try.params7, List.append_nil, List.append_nil] at hsz
  rw [Try.params7] at hA hval
  have hds : ∃ d0 d1, ds = [d0, d1] := by
    obtain ⟨_, _, d0, d1, _, _, _, h, _⟩ := trodAll_two hA
    exact ⟨d0, d1, h⟩
  obtain ⟨d0, d1, rfl⟩ := hds
  refine (stays_walk (fun h a c xs loops arc h1 h2 => law7_c h1 h2) hval hA hsz).mono fun e W' ⟨he, hm, hk⟩ => ?_
  subst he
  refine ChangeSpec.post_blind (post_true rfl ?_ (by kernel_rfl) hW rfl hm hk)
  rw [Try.params7]
  intro t ht
  simp only [List.mem_cons, List.not_mem_nil, or_false] at ht
  rcases ht with rfl | rfl
  · exact rr24
  · exact rr3

theorem j7 : joinedFacts Try.prog 7 Try.f7 Rows.outsideStaysSpec Rows.outsideStaysRow = true :=
  joined_of j7_rest j_laid j_rowed j7_place j7_unf j7_rec j7_named j_heard j_enter j_lifts (by kernel_rfl) j_make (by kernel_rfl)

theorem outsideStays_said : Rows.OutsideStaysSaid :=
  OpenClaim.holds_of_wide 7 Try.f7 rfl rfl rfl rfl rfl rfl rfl ⟨rfl, rfl, rfl, rfl, rfl⟩ rfl rfl rfl rfl rfl (by kernel_rfl) Try.func7 j7
    (of_decide_eq_true (by kernel_rfl)) (by unfold Func.isWrapper; first | (rw [if_pos (by decide +kernel)]; kernel_rfl) | (rw [if_neg (by decide +kernel)]; exact ⟨rfl, rfl⟩))
    (fun os started H enc _ => outsideStays_lifted os started H enc)

end Go.Proofs.Ytocoadpepofbbaa.AM
