/-
  THE BRIDGE from a contract on the abstract machine to a given statement: the arguments that come in, what is left.
-/
import Derived.Test.YtocoadpepofbbaaG19
import Derived.Test.YtocoadpepofbbaaRows
import Derived.ProofKit
set_option linter.unusedVariables false
set_option linter.unusedSimpArgs false
set_option maxRecDepth 100000
namespace Go.Proofs.Ytocoadpepofbbaa.AM
open Go Go.ChangeShapes Go.WideShapes Go.ChangeAt Go.RowKit

theorem knob : ownKnob Try.prog.godebug = none := by kernel_rfl
theorem laidOut : laidOutB Try.prog = true := by kernel_rfl
theorem orders : Try.prog.follows .mixedOrders = true := by kernel_rfl
theorem sz118 : Try.prog.bytesOf 118 = 40 := by kernel_rfl
theorem cl118 : Try.prog.cellsOf 118 = 5 := by kernel_rfl
theorem cl106 : Try.prog.cellsOf 106 = 4 := by kernel_rfl
theorem cl24 : Try.prog.cellsOf 24 = 2 := by kernel_rfl
theorem cl22 : Try.prog.cellsOf 22 = 1 := by kernel_rfl
theorem cl3 : Try.prog.cellsOf 3 = 1 := by kernel_rfl
theorem rr24 : Try.prog.readableRec 24 = true ∧ 24 < Try.prog.types.size := ⟨by kernel_rfl, of_decide_eq_true (by kernel_rfl)⟩
theorem rr3 : Try.prog.readableRec 3 = true ∧ 3 < Try.prog.types.size := ⟨by kernel_rfl, of_decide_eq_true (by kernel_rfl)⟩

/-! ### the heap that came in -/
def inH (rows : List (List AV × Loc)) : List ABlk := rows.map fun p => .row true p.1
def inE (rows : List (List AV × Loc)) : Emb := fun b g => match rows[b]? with | some p => if g = p.1.length then some p.2 else none | none => none
theorem inE_at {rows : List (List AV × Loc)} {b g : Nat} {l : Loc} (h : inE rows b g = some l) : ∃ p, rows[b]? = some p ∧ g = p.1.length ∧ l = p.2 := by
  unfold inE at h
  split at h
  · rename_i p hp
    split at h
    · rename_i hg; cases h; exact ⟨p, hp, hg, rfl⟩
    · cases h
  · cases h
theorem in_rel {rows : List (List AV × Loc)} {W : World} (hr : ∀ p ∈ rows, p.2.c < W.heap.size ∧ ∀ ι, RowR ι p.1 (fun j => W.cell? ⟨p.2.c, p.2.o + j, none⟩)) : HRel Try.prog 0 (inE rows) (inH rows) W := by
  refine ⟨fun b k hk => ?_, fun b g l hl => ?_, fun b b' k k' l l' hk hk' hl hl' ho => ?_, Nat.zero_le _⟩
  · unfold inH at hk
    rw [List.getElem?_map] at hk
    cases hp : rows[b]? with
    | none => rw [hp] at hk; cases hk
    | some p =>
      rw [hp] at hk; cases hk
      intro l hl
      obtain ⟨q, hq, _, rfl⟩ := inE_at hl
      rw [hp] at hq; cases hq
      exact (hr p (List.mem_of_getElem? hp)).2 _
  · obtain ⟨p, hp, rfl, rfl⟩ := inE_at hl
    exact ⟨(hr p (List.mem_of_getElem? hp)).1, .row true p.1, by simp [inH, hp], Nat.le_refl _⟩
  · unfold inH at hk
    rw [List.getElem?_map] at hk
    cases hp : rows[b]? with
    | none => rw [hp] at hk; cases hk
    | some p => rw [hp] at hk; cases hk; simp [own] at ho
theorem in_cl {rows : List (List AV × Loc)} (hr : ∀ p ∈ rows, refsL p.1 = []) : HCl (inH rows).length (inH rows) := by
  intro b k hk _
  unfold inH at hk
  rw [List.getElem?_map] at hk
  cases hp : rows[b]? with
  | none => rw [hp] at hk; cases hk
  | some p =>
    rw [hp] at hk; cases hk
    show Cl _ (refsL p.1)
    rw [hr p (List.mem_of_getElem? hp)]
    exact Cl.nil _

theorem calls_of_ends {g : FuncId} {args : List AV} {h : List ABlk} {vals : List Value} {W : World} {ι : Emb} {r : Ret} {B : Nat} (hE : Ends PR (.f g) args h r) (H : HRel Try.prog B ι h W) (hv : VRelL ι args vals)
    (hc : Cl h.length (refsL args)) (hh : HCl h.length h) : Calls Try.prog g vals.toArray W fun e w' => ∃ v ι', e = .returned v ∧ VRel ι' r.v v ∧ Ext Try.prog B ι h W r.wr ι' r.h w' := by
  obtain ⟨n, hn⟩ := hE
  exact callsIn_wide.1 ((aCall_sound orders (fun _ _ h => h) n).1 ι h W g args vals r hn H hv hc hh).2

/-! ### what is left -/
theorem trodAll_stays {H : Type} {enc : TypeId × Value → H} {W W' : World} {sp' : Nat → Bool} : ∀ {ts : List TypeId} {vs : List Value} {ds : List (DataW H)} {ps : List MemPlace}, (∀ t ∈ ts, Try.prog.readableRec t = true ∧ t < Try.prog.types.size) →
    DataW.TrodAll enc Try.prog W 0 (fun _ => true) true ts vs ds ps → (∀ p ∈ ps, W.sameAt W' p) → (∀ p ∈ ps, sp' p.block = true) → DataW.TrodAll enc Try.prog W' 0 sp' true ts vs ds ps
  | [], [], [], _, _, h, _, _ => h
  | t :: ts, v :: vs, d :: ds, _, ht, ⟨p, q, h1, h2, e⟩, hs, hb => by
    subst e
    exact ⟨p, q, Go.WideElems.Trod_stays laidOut (ht t (by simp)).1 (ht t (by simp)).2 h1 (fun x hx => hs x (by simp [hx])) (fun x hx => hb x (by simp [hx])),
      trodAll_stays (fun u hu => ht u (by simp [hu])) h2 (fun x hx => hs x (by simp [hx])) (fun x hx => hb x (by simp [hx])), rfl⟩
  | [], [], _ :: _, _, _, h, _, _ => h.elim
  | [], _ :: _, _, _, _, h, _, _ => by cases h
  | _ :: _, [], _, _, _, h, _, _ => by cases h
  | _ :: _, _ :: _, [], _, _, h, _, _ => by cases h

theorem keptBut_of_heap {W W' : World} {may : MemPlace → Prop} (hm : Misc W W') (hk : ∀ c, c < W.heap.size → W'.heap[c]? = W.heap[c]?) : W.keptBut W' may := by
  refine ⟨hm.os, hm.output, fun i hi => ?_⟩
  rw [hk i hi]
  split
  · rename_i h1 h2; rw [h1] at h2; cases h2; exact ⟨rfl, rfl, rfl, fun _ _ => rfl⟩
  · rename_i h1 h2; rw [h1] at h2; cases h2; exact .inr ⟨rfl, rfl⟩
  · rfl
theorem sameAt_of_heap {W W' : World} (hk : ∀ c, c < W.heap.size → W'.heap[c]? = W.heap[c]?) {p : MemPlace} (hp : p.block < W.heap.size) : W.sameAt W' p := by
  cases p with
  | cell b off =>
    have := hk b hp
    simp only [World.sameAt, World.cell?, this]
  | map b => exact hk b hp

/-- IT RETURNS TRUE, AND ALL READS AS IT DID. -/
theorem post_true {H : Type} {enc : TypeId × Value → H} {f : Func} {s : ChangeSpec} {W W' : World} {args : Array Value} {ds : List (DataW H)} {before : List MemPlace} (hsv : s.vars = [])
    (hrr : ∀ t ∈ f.params.toList, Try.prog.readableRec t = true ∧ t < Try.prog.types.size) (hrt : f.resultTypes = #[4])
    (hW : DataW.Whole enc Try.prog f.params.toList s.vars false W args.toList ds [] before) (hsp : s.fn H (ds ++ []) = { results := [.lit (.bool true)], args := ds })
    (hm : Misc W W') (hk : ∀ c, c < W.heap.size → W'.heap[c]? = W.heap[c]?) : s.post enc Try.prog f false true false false W args (.bool true) W' := by
  have hlt := hW.lt
  have hW' := hW
  obtain ⟨p, q, hA, hV, rfl, hfz, hnd⟩ := hW
  rw [hsv] at hV
  obtain ⟨_, rfl⟩ := trodVars_none hV
  refine ⟨ds, [], _, [], p, [], hW', ?_, ?_, ?_, keptBut_of_heap hm hk, fun h => by cases h⟩
  · rw [hsp, hrt]
    exact trodAll_mk1 (shut_bool Try.underlying4 _)
  · rw [hsp]
    exact trodAll_stays hrr hA (fun x hx => sameAt_of_heap hk (hlt x (by simp [hx]))) (fun x hx => by simpa using hlt x (by simp [hx]))
  · rw [hsp, hsv]; rfl

/-! ### a diagram that came in -/
theorem trod_x {H : Type} {enc : TypeId × Value → H} {w : World} {b : Nat} {sp : Nat → Bool} {hd : Bool} {fuel : Nat} {cs : List Value} {z : DataW H × List MemPlace} (h : DataW.trod enc Try.prog w b sp hd fuel 118 cs = some z) :
    ∃ x : X, ∀ ι, VRelL ι x.cells cs := by
  obtain ⟨y0, y1, n, _, hl, h0, h1⟩ := trod_struct2 Try.underlying118 h
  rw [cl118] at hl
  simp only [cl106, cl3] at h0 h1
  match cs, hl with
  | [c0, c1, c2, c3, c4], _ =>
    obtain ⟨s, hs, _⟩ := DataW.trod_int Try.underlying3 h1
    cases n with
    | zero => simp [DataW.trod] at h0
    | succ n =>
      simp only [DataW.trod, Try.underlying106, cl106, cl3] at h0
      simp only [List.drop, List.take, List.length_cons, List.length_nil, if_true, List.range_succ, List.range_zero, List.nil_append, List.cons_append] at h0 hs
      simp only [Option.map_eq_some_iff] at h0
      obtain ⟨ys, hys, _⟩ := h0
      have g := fun i c hi => mapM_some_get hys i c hi
      have e0 := g 0 0 rfl
      have e1 := g 1 1 rfl
      have e2 := g 2 2 rfl
      have e3 := g 3 3 rfl
      have hlen := mapM_some_length hys
      match ys, hlen with
      | [u0, u1, u2, u3], _ =>
        simp at e0 e1 e2 e3 hs
        obtain ⟨a0, k0, _⟩ := DataW.trod_int Try.underlying3 e0
        obtain ⟨a1, k1, _⟩ := DataW.trod_int Try.underlying3 e1
        obtain ⟨a2, k2, _⟩ := DataW.trod_int Try.underlying3 e2
        obtain ⟨a3, k3, _⟩ := DataW.trod_int Try.underlying3 e3
        simp at k0 k1 k2 k3
        subst k0 k1 k2 k3 hs
        exact ⟨⟨a0, a1, a2, a3, s⟩, fun ι => .cons (.int _ _) (.cons (.int _ _) (.cons (.int _ _) (.cons (.int _ _) (.cons (.int _ _) .nil))))⟩

theorem ct24 : Try.prog.cellTypes Try.prog.depth 24 = some [22, 3] := by kernel_rfl

theorem okWide_row {P : Program} {w : World} {r : Reach} {base : Nat} {t : TypeId} {v : Value} {fs : Array Field} {ts : List TypeId} (ht : P.underlying t = some (.struct fs)) (hts : P.cellTypes P.depth t = some ts) (h : Value.okWide P w r base t v) :
    ∃ cs, v = .agg cs ∧ ∀ i v, cs[i]? = some v → ∃ u, ts[i % ts.length]? = some u ∧ Cell.okWide P w r base u v := by
  unfold Value.okWide at h
  rw [ht] at h
  obtain ⟨cs, rfl, _, ts', h1, _, h2⟩ := h
  rw [hts] at h1
  cases h1
  exact ⟨cs, rfl, h2⟩
theorem okWide_sl {P : Program} {w : World} {r : Reach} {base : Nat} {t e : TypeId} {a : Addr} {len cap : Nat} (ht : P.underlying t = some (.slice e)) (h : Cell.okWide P w r base t (.slice (some a) len cap)) : a.spot = none ∧ a.block < w.heap.size := by
  unfold Cell.okWide at h
  rw [ht] at h
  simp only [Cell.ok, ht] at h
  obtain ⟨_, _, _, hsp, row, cells, hsh, _⟩ := h
  refine ⟨hsp, ?_⟩
  unfold World.shape? at hsh
  split at hsh
  · rename_i hb; exact (Array.getElem?_eq_some_iff.1 hb).1
  · cases hsh
theorem weights_sl {P : Program} {H : Type} {t u e : TypeId} {f0 f1 : Field} {es rs : List (DataW H)} {d1 : DataW H} {m : Nat} (ht : P.underlying t = some (.struct #[f0, f1])) (hu : f0.type = u) (he : P.underlying u = some (.slice e)) (hm : P.bytesOf e = m)
    (h : ((DataW.agg [.slice es rs, d1]).weights P t).all (· ≤ reachBytes) = true) : (es.length + rs.length) * m ≤ reachBytes := by
  subst hu hm
  simp [DataW.weights, ht, DataW.weightsEach, he] at h
  exact h.1

theorem open_dia {H : Type} {enc : TypeId × Value → H} {W : World} {base b0 : Nat} {v : Value} {d : DataW H} {ps : List MemPlace} (hval : Value.okWide Try.prog W .any base 24 v) (hd : DataW.Trod enc Try.prog W b0 (fun _ => true) true 24 v d ps)
    (hsz : (d.weights Try.prog 24).all (· ≤ reachBytes) = true) :
    ∃ s loops xs, v = .agg #[s, .int .i64 loops] ∧ (Lit.int .i64 loops).wf = true ∧ List.length xs * 40 ≤ reachBytes ∧
      ((s = .slice none 0 0 ∧ xs = []) ∨ ∃ b off cap, s = .slice (some ⟨b, off, none⟩) xs.length cap ∧ xs.length ≤ cap ∧ b < W.heap.size ∧
        ∀ ι, RowR ι (xs.flatMap X.cells) (fun j => W.cell? ⟨b, off + j, none⟩)) := by
  obtain ⟨cs, rfl, hrow⟩ := okWide_row Try.underlying24 ct24 hval
  obtain ⟨fuel, hd⟩ := hd
  obtain ⟨y0, y1, n, hx, hl, h0, h1⟩ := trod_struct2 Try.underlying24 hd
  simp only [Prod.mk.injEq] at hx
  obtain ⟨rfl, rfl⟩ := hx
  rw [cl24] at hl
  simp only [cl22, cl3] at h0 h1
  obtain ⟨l⟩ := cs
  simp only [Value.cells] at h0 h1 hl
  match l, hl with
  | [s, t], _ =>
    obtain ⟨loops, hlo, _, hwf⟩ := DataW.trod_int Try.underlying3 h1
    simp only [List.drop, List.take, List.cons.injEq, and_true] at hlo
    subst hlo
    obtain ⟨u, hu, hok⟩ := hrow 0 s rfl
    cases hu
    rcases DataW.trod_slice Try.underlying22 h0 with ⟨e1, e2⟩ | ⟨a, len, cap, elems, rest, m, _, e1, e2, hb, hlc, _, hel, hat, _, _⟩
    · simp only [List.drop, List.take, List.cons.injEq, and_true] at e1
      exact ⟨s, loops, [], rfl, hwf, by simp, .inl ⟨e1, rfl⟩⟩
    · simp only [List.drop, List.take, List.cons.injEq, and_true] at e1
      subst e1
      obtain ⟨hsp, hbl⟩ := okWide_sl Try.underlying22 hok
      obtain ⟨b, off, sp⟩ := a
      cases hsp
      subst e2
      have hw := weights_sl Try.underlying24 rfl Try.underlying22 sz118 hsz
      simp only [List.length_map] at hw
      have each : ∀ i, i < len → ∃ x : X, ∀ ι, RowR ι x.cells (fun j => W.cell? ⟨b, off + (i * 5 + j), none⟩) := by
        intro i hi
        have h := hat i hi
        rw [cl118, List.getElem?_eq_getElem (by omega)] at h
        simp only [Option.bind_eq_some_iff] at h
        obtain ⟨c1, hc1, hy⟩ := h
        obtain ⟨x, hx⟩ := trod_x hy
        obtain ⟨_, hcl, hce⟩ := World.cells?_some hc1
        refine ⟨x, fun ι j a ha => ?_⟩
        obtain ⟨v', h1, h2⟩ := (hx ι).get ha
        have hj : j < 5 := by have := (List.getElem?_eq_some_iff.1 h1).1; omega
        refine ⟨v', ?_, h2⟩
        have := hce j hj
        rw [add_plain, add_plain] at this
        rw [← h1, ← this, Nat.add_assoc]
      have all : ∀ n, n ≤ len → ∃ xs : List X, xs.length = n ∧ ∀ ι, RowR ι (xs.flatMap X.cells) (fun j => W.cell? ⟨b, off + j, none⟩) := by
        intro n
        induction n with
        | zero => exact fun _ => ⟨[], rfl, fun ι j a ha => by simp at ha⟩
        | succ n ih =>
          intro hn
          obtain ⟨xs, hl, hr⟩ := ih (by omega)
          obtain ⟨x, hx⟩ := each n (by omega)
          refine ⟨xs ++ [x], by simp [hl], fun ι j a ha => ?_⟩
          have hfl : (xs.flatMap X.cells).length = n * 5 := by rw [flatMap_len _ 5 (fun _ => rfl), hl]
          rw [List.flatMap_append] at ha
          by_cases hj : j < n * 5
          · rw [List.getElem?_append_left (by omega)] at ha
            exact hr ι j a ha
          · rw [List.getElem?_append_right (by omega), hfl] at ha
            simp only [List.flatMap_cons, List.flatMap_nil, List.append_nil] at ha
            obtain ⟨y, h1, h2⟩ := hx ι (j - n * 5) a ha
            refine ⟨y, ?_, h2⟩
            rw [← h1]
            congr 2
            omega
      obtain ⟨xs, hxl, hxr⟩ := all len (Nat.le_refl _)
      subst hxl
      exact ⟨_, loops, xs, rfl, hwf, by omega, .inr ⟨b, off, cap, rfl, hlc, hbl, hxr⟩⟩
end Go.Proofs.Ytocoadpepofbbaa.AM

/-
  THE BRIDGE, for a law on one diagram and one int: 'OutsideStays'.
-/
set_option linter.unusedVariables false
set_option linter.unusedSimpArgs false
set_option maxRecDepth 100000
namespace Go.Proofs.Ytocoadpepofbbaa.AM
open Go Go.ChangeShapes Go.WideShapes Go.ChangeAt Go.RowKit

/-- The slice of a diagram that came in, on the abstract machine. -/
theorem in_dia {W : World} {s : Value} {xs : List X}
    (h : (s = .slice none 0 0 ∧ xs = []) ∨ ∃ b off cap, s = .slice (some ⟨b, off, none⟩) xs.length cap ∧ xs.length ≤ cap ∧ b < W.heap.size ∧ ∀ ι, RowR ι (xs.flatMap X.cells) (fun j => W.cell? ⟨b, off + j, none⟩)) :
    ∃ rows a c, SlIn (inH rows) a xs.length 5 (xs.flatMap X.cells) ∧ VRel (inE rows) (.sl a xs.length c) s ∧ HRel Try.prog 0 (inE rows) (inH rows) W ∧ HCl (inH rows).length (inH rows) ∧ Cl (inH rows).length (refs (.sl a xs.length c)) := by
  rcases h with ⟨rfl, rfl⟩ | ⟨b, off, cap, rfl, hlc, hb, hr⟩
  · exact ⟨[], none, .k 0, ⟨rfl, .inl ⟨rfl, rfl⟩⟩, .slN, in_rel (by simp), in_cl (by simp), by simp [refs]; exact Cl.nil _⟩
  · have hl : (xs.flatMap X.cells).length = xs.length * 5 := flatMap_len _ 5 (fun _ => rfl) _
    refine ⟨[(xs.flatMap X.cells, ⟨b, off, 0⟩)], some ⟨0, xs.length * 5, 0⟩, .k cap, ⟨hl, .inr ⟨0, true, rfl, rfl⟩⟩, ?_, in_rel ?_, in_cl ?_, ?_⟩
    · exact .sl (l := ⟨b, off, 0⟩) (by simp [inE, hl]) hlc rfl (fun _ => rfl)
    · intro p hp
      simp only [List.mem_singleton] at hp
      subst hp
      exact ⟨hb, hr⟩
    · intro p hp
      simp only [List.mem_singleton] at hp
      subst hp
      exact refsL_flat (fun x => X.cells_refs x) _
    · intro x hx
      simp [refs] at hx
      subst hx
      simp [inH]

theorem cl_args {n : Nat} {v : AV} {l k : Int} (h : Cl n (refs v)) : Cl n (refsL [.agg [v, I l], I k]) := by
  intro b hb
  obtain ⟨w, hw, hb⟩ := mem_refsL.1 hb
  simp only [List.mem_cons, List.not_mem_nil, or_false] at hw
  rcases hw with rfl | rfl
  · have hb' : b ∈ refsL [v, I l] := hb
    obtain ⟨u, hu, hbu⟩ := mem_refsL.1 hb'
    simp only [List.mem_cons, List.not_mem_nil, or_false] at hu
    rcases hu with rfl | rfl
    · exact h b hbu
    · cases hbu
  · cases hb

theorem stays_walk {W : World} {base : Nat} {args : Array Value} {H : Type} {enc : TypeId × Value → H} {ds : List (DataW H)} {p : List MemPlace} {g : FuncId}
    (hlaw : ∀ (h : List ABlk) (a : Option Ad) (c : Cap) (xs : List X) (loops arc : Int), SlIn h a xs.length 5 (xs.flatMap X.cells) → xs.length * 40 ≤ 140737488355328 → Ends PR (.f g) [.agg [.sl a xs.length c, I loops], I arc] h ⟨Bo true, h, [], none⟩)
    (hval : ∀ (j : Nat) t v, (#[24, 3] : Array TypeId)[j]? = some t → args[j]? = some v → Value.okWide Try.prog W .any base t v)
    (hA : DataW.TrodAll enc Try.prog W 0 (fun _ => true) true [24, 3] args.toList ds p) (hsz : (DataW.weightsEach Try.prog [24, 3] ds).all (· ≤ reachBytes) = true) :
    Calls Try.prog g args W fun e W' => e = .returned (.bool true) ∧ Misc W W' ∧ ∀ c, c < W.heap.size → W'.heap[c]? = W.heap[c]? := by
  obtain ⟨v0, v1, d0, d1, p0, p1, rfl, rfl, rfl, h0, h1⟩ := trodAll_two hA
  have hs0 : (d0.weights Try.prog 24).all (· ≤ reachBytes) = true := by
    simp only [DataW.weightsEach, List.all_append, Bool.and_eq_true] at hsz
    exact hsz.1
  obtain ⟨s, loops, xs, rfl, _, hx, hin⟩ := open_dia (hval 0 24 v0 rfl rfl) h0 hs0
  obtain ⟨arc, rfl, _, _, _⟩ := open_int Try.underlying3 (hval 1 3 v1 rfl rfl) h1
  obtain ⟨rows, a, c, hI, hv, hH, hcl, hc⟩ := in_dia hin
  have hx' : xs.length * 40 ≤ 140737488355328 := Nat.le_trans hx (by decide)
  have := calls_of_ends (vals := [.agg #[s, .int .i64 loops], .int .i64 arc]) (hlaw (inH rows) a c xs loops arc hI hx') hH
    (.cons (.agg (vs := [s, .int .i64 loops]) (.cons hv (.cons (.int _ _) .nil))) (.cons (.int _ _) .nil)) (cl_args hc) hcl
  refine this.mono fun e w' ⟨v, ι', he, hv, hE⟩ => ?_
  cases hv
  exact ⟨he, hE.misc, fun c hc => hE.frame c hc (fun b k l hb => by cases hb)⟩

end Go.Proofs.Ytocoadpepofbbaa.AM
