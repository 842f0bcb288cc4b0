/-
  append AND copy.
-/
import Derived.Test.YtocoadpepofbbaaG4
import Derived.Test.YtocoadpepofbbaaG2
set_option linter.unusedVariables false
set_option linter.unusedSimpArgs false
namespace Go.Proofs.Ytocoadpepofbbaa.AM
open Go

section
variable {P : Program} {B : Nat} {ι : Emb} {h : List ABlk} {w : World} {e : List AV} {nt : Nat} {o : Oper} {a : Act} {r : OpR} {call : Tgt → List AV → List ABlk → Option Ret}

theorem exec_append {c : Call} {s x : Operand} {t : TypeId} (hop : o.op = .call c) (hc : c.callee = .builtin .append) (hargs : c.args.toList = [s, x]) (hts : c.argTypes.toList = [t, t]) {v : Value} {w' : World}
    (hr : (Builtin.append_ #[t, t] o.type #[a.eval s, a.eval x]).run P w = .ok v w') : (execOp a.eval o).run P w = .ok (.value v) w' := by
  have ha : c.args = #[s, x] := Array.ext' hargs
  have hts' : c.argTypes = #[t, t] := Array.ext' hts
  simp [execOp, hop, resolve, hc, ha, hts', invoke, builtin, hr]

theorem run_append_zero {t el ty : TypeId} {i : TypeInfo} (ht : P.underlying t = some (.slice el)) (hi : P.info? el = some i) {b : Option Addr} {len cap : Nat} (hle : len ≤ cap) {b' : Option Addr} {cap' : Nat} :
    (Builtin.append_ #[t, t] ty #[.slice b len cap, .slice b' 0 cap']).run P w = .ok (.slice b len cap) w := by
  have hf : (Builtin.firstCells i.size 0 (.slice b' 0 cap')).run P w = .ok #[] w := by
    cases b' with
    | none => exact run_firstCells_none w _ _ _ _
    | some b' => simpa using run_firstCells_some (P := P) w i.size 0 b' 0 cap' [] (by simp) (by simp)
  cases b with
  | none => simp [Builtin.append_, run_underlying ht, run_sizeOf hi, Builtin.lenOf, hle, hf]
  | some b => simp [Builtin.append_, run_underlying ht, run_sizeOf hi, Builtin.lenOf, hle, hf, storeCells]

theorem ext_row_drew {cs : List AV} {vs : Array Value} {el : TypeId} (hn : ∀ g, ι h.length g = none) (hB : B ≤ w.heap.size) {g : Nat} (hg : g = cs.length) (hv : ∀ ι', Sub ι ι' → RowR ι' cs (fun j => vs[j]?)) :
    Ext P B ι h w [] (upd ι h.length g ⟨w.heap.size, 0, vs.size⟩) (h ++ [.row false cs]) (w.drew.alloc (.cells vs el)) := by
  have := ext_row (P := P) (B := B) (ι := ι) (h := h) (w := w.drew) (e := el) hn hB hg rfl hv
  refine ⟨⟨this.misc.os, this.misc.tape, this.misc.output, this.misc.size⟩, this.sub, this.len, this.keep, this.gen, this.wrl, this.wrd, this.dk, this.new, this.blk, this.inj, this.newOwn, this.frame⟩

theorem grow_row {b : Nat} {cs cs' : List AV} {l : Loc} {vs : Array Value} {el : TypeId} (hb : h[b]? = some (.row false cs)) (hl : ι b cs.length = some l) (hlt : cs.length < cs'.length) (hn : ι b cs'.length = none) (hB : B ≤ w.heap.size)
    (hv : ∀ ι', Sub ι ι' → RowR ι' cs' (fun j => vs[j]?)) :
    Ext P B ι h w [b] (upd ι b cs'.length ⟨w.heap.size, 0, vs.size⟩) (h.set b (.row false cs')) (w.drew.alloc (.cells vs el)) := by
  refine Ext.grow (k := .row false cs) (k' := .row false cs') (l := l) (l' := ⟨w.heap.size, 0, vs.size⟩) hb hlt rfl rfl hl hn ⟨rfl, rfl, rfl, by simp⟩ (by simp) (.inl (Nat.le_refl _)) (fun c _ hc => ?_) ?_
  · have : (w.drew.alloc (.cells vs el)).heap[c]? = w.drew.heap[c]? := heap_alloc_lt _ _ hc
    exact this
  · intro l' hl'
    rw [show bgen (.row false cs') = cs'.length from rfl, upd_same] at hl'
    cases hl'
    exact ⟨rfl, hB, vs, el, heap_alloc_at w.drew _, rfl, hv _ (upd_sub hn)⟩

theorem rowR_app {cs ds : List AV} {vs us : List Value} {c : Array Value} (h1 : VRelL ι cs vs) (h2 : VRelL ι ds us) (rest : Array Value) (hc : c = vs.toArray ++ us.toArray ++ rest) : RowR ι (cs ++ ds) (fun j => c[j]?) := by
  intro j v hj
  obtain ⟨x, g1, g2⟩ := (h1.append h2).get hj
  refine ⟨x, ?_, g2⟩
  have hlt := lt_of_get g1
  subst hc
  simp only [← Array.getElem?_toList, Array.toList_append]
  rw [List.getElem?_append_left (by simpa using hlt)]
  simpa using g1

theorem rel_take {l : Loc} {cs : List AV} {c : Array Value} (hc : RowR ι cs (fun j => c[j]?)) : VRelL ι cs (c.toList.take cs.length) := by
  have hsz := rowR_size hc
  refine VRelL.of_get (by simp; omega) fun j v hv => ?_
  obtain ⟨x, h1, h2⟩ := hc j v hv
  refine ⟨x, ?_, h2⟩
  rw [List.getElem?_take_of_lt (lt_of_get hv)]
  simpa using h1

theorem src_sound {size n : Nat} {b : Option Ad} {c : Cap} {x : Value} {new : List AV} {acc : List Nat} (hv : VRel ι (.sl b n c) x) (hs : slCells h size n (.sl b n c) = some (new, acc)) (h0 : n ≠ 0)
    (hblk : ∀ b ∈ acc, ∀ k, h[b]? = some k → BRel P B ι w b k) :
    ∃ (ad : Addr) (cap : Nat) (news : List Value), x = .slice (some ad) n cap ∧ new.length = n * size ∧ VRelL ι new news ∧ ∀ (j : Nat) (u : Value), news[j]? = some u → w.cell? (ad.add j) = some u := by
  cases b with
  | none =>
    obtain ⟨rfl, _, _⟩ := hv.inv_slN
    exact absurd rfl h0
  | some p =>
    obtain ⟨l, cap, ad, g1, g2, g3, g4, rfl⟩ := hv.inv_sl
    simp only [slCells, Nat.le_refl, if_true, Option.map_eq_some_iff, Prod.mk.injEq] at hs
    obtain ⟨cs, hrd, rfl, rfl⟩ := hs
    obtain ⟨hlen, vs, h1, h2⟩ := rdN_sound (P := P) (B := B) hrd g1 (fun k hk => hblk p.b (by simp) k hk)
    have had := g4 (by omega)
    exact ⟨ad, cap, vs, rfl, hlen, h1, by rw [had]; exact h2⟩

theorem ok_append {c : Call} {s x : Operand} {t el : TypeId} (hop : o.op = .call c) (hc : c.callee = .builtin .append) (hargs : c.args.toList = [s, x]) (hts : c.argTypes.toList = [t, t]) (ht : P.underlying t = some (.slice el)) {i : TypeInfo} (hi : P.info? el = some i)
    (hbytes : 0 < i.bytes) (hsize : 0 < i.size) (hz : (i.zero.map fun z => z.cells.size) = some i.size) {as ax : AOpd} (hs : opd s = some as) (hx : opd x = some ax) (he : ERel ι nt e a.tmps)
    (hblk : ∀ acc, r.acc = some acc → ∀ b ∈ acc, ∀ k, h[b]? = some k → BRel P B ι w b k) (hn : ∀ g, ι h.length g = none) (hB : B ≤ w.heap.size)
    (hfg : ∀ b ∈ r.wr, ∀ k k', h[b]? = some k → r.h[b]? = some k' → bgen k < bgen k' → ι b (bgen k') = none)
    (hr : aOp call e h (.append i.size i.bytes as ax) = some r) : OpOk P B ι h w o a r := by
  simp only [aOp] at hr
  have hs' := opd_sound he hs
  have hx' := opd_sound he hx
  obtain ⟨z, hz0, hz1⟩ : ∃ z, i.zero = some z ∧ z.cells.size = i.size := by simpa [Option.map_eq_some_iff] using hz
  split at hr
  case h_2 => cases hr
  rename_i sa len cap xb n xc heq heq'
  rw [heq] at hs'
  rw [heq'] at hx'
  split at hr
  case h_1 => cases hr
  rename_i new acc hsl
  obtain ⟨sad, scap, hsv, hsnil, hsle, hscm⟩ := hs'.inv_slAny
  by_cases h0 : n = 0
  · rw [if_pos h0] at hr
    cases hr
    subst h0
    obtain ⟨xad, xcap, hxv, _⟩ := hx'.inv_slAny
    refine OpOk.pure (x := a.eval s) ?_ hs'
    refine exec_append hop hc hargs hts ?_
    rw [hxv, hsv]
    exact run_append_zero ht hi hsle
  · rw [if_neg h0] at hr
    split at hr
    case isFalse => cases hr
    rename_i hcond
    obtain ⟨hb47, hone⟩ := hcond
    have hlen1 : len + n ≤ 140737488355328 := Nat.le_trans (Nat.le_mul_of_pos_right _ hbytes) hb47
    have hnb : n * i.bytes ≤ 140737488355328 := Nat.le_trans (Nat.mul_le_mul_right _ (by omega)) hb47
    split at hr
    · -- nil
      cases hr
      obtain ⟨hl0, hk0, hsv'⟩ := hs'.inv_slN
      obtain ⟨ad, xcap, news, hxv, hnl, hrel, hcells⟩ := src_sound (P := P) (B := B) hx' hsl h0 (fun b hb k hk => hblk _ rfl b hb k hk)
      have hrl := hrel.length
      have hrun := run_append_nil (P := P) w t o.type el i z ht hi hz0 ad n xcap news (by omega) hcells (by omega) (by omega) (by omega)
      have hex := exec_append (P := P) (w := w) hop hc hargs hts (by rw [hsv', hxv]; exact hrun)
      have hge := grownCap_ge w n 0 el
      refine ⟨_, _, _, ⟨_, hex, .inl rfl⟩, .sl (l := ⟨w.heap.size, 0, (news.toArray ++ Builtin.zeroCells z.cells (grownCap w n 0 el - n)).size⟩) (upd_same _ _ _ _) hge ?_ (fun _ => rfl),
        ext_row_drew hn hB rfl fun ι' hsub => rowR_app (vs := []) (cs := []) .nil (hrel.mono hsub) (Builtin.zeroCells z.cells (grownCap w n 0 el - n)) (by simp)⟩
      right
      simp only [Nat.zero_add, Array.size_append, List.size_toArray, Builtin.zeroCells, Array.size_map, Array.size_range, hz1]
      rw [← hrl, hnl, ← Nat.add_mul]
      exact Nat.mul_le_mul_right _ (by omega)
    · rename_i p
      obtain ⟨l, cap1, ad1, g1, g2, g3, g4, hsv'⟩ := hs'.inv_sl
      split at hr
      case h_2 => cases hr
      rename_i ro cs hb
      split at hr
      case isFalse => cases hr
      rename_i hg
      -- a write in place: what the model does
      have inplace : ∀ {cs' : List AV} (hro : ro = false) (hbr : BRel P B ι w p.b (.row ro cs)) (hroom : len + n ≤ cap1) (h00 : p.o = 0) (hfit : len * i.size + new.length ≤ l.sz)
          {ad : Addr} {xcap : Nat} {news : List Value} (hxv : a.eval x = .slice (some ad) n xcap) (hnl : new.length = n * i.size) (hrel : VRelL ι new news) (hcells : ∀ (j : Nat) (u : Value), news[j]? = some u → w.cell? (ad.add j) = some u),
          ∃ cur ety, w.heap[l.c]? = some (.cells cur ety (0, 0)) ∧ cur.size = l.sz ∧ l.o = 0 ∧ B ≤ l.c ∧ RowR ι cs (fun j => cur[j]?) ∧
            (execOp a.eval o).run P w = .ok (.value (.slice (some ⟨l.c, 0, none⟩) (len + n) cap1)) (w.setRow l.c (cur.toList.take (len * i.size) ++ news ++ cur.toList.drop (len * i.size + news.length)).toArray) := by
        intro cs' hro hbr hroom h00 hfit ad xcap news hxv hnl hrel hcells
        subst hro
        obtain ⟨hlo, hBl, cur, ety, hcur, hsz, hrow⟩ := hbr l (by rw [hg]; exact g1)
        have had : ad1 = ⟨l.c, 0, none⟩ := by rw [g4 (by omega), hlo, h00]
        have hrl := hrel.length
        refine ⟨cur, ety, hcur, hsz, hlo, hBl, hrow, ?_⟩
        refine exec_append (P := P) (w := w) hop hc hargs hts ?_
        rw [hsv', hxv, had]
        have hone' := ones_rel hrel hone
        -- the kit's law wants the row's own element type: by hand
        have hf := run_firstCells_some (P := P) w i.size n ad n xcap news (by omega) hcells
        have hst := run_storeCells_at P l.c (len * i.size) ety news 0 cur w hcur (by omega) hone'
        have ha0 : ((⟨l.c, 0, none⟩ : Addr).add (len * i.size)) = ⟨l.c, len * i.size, none⟩ := by rw [add_plain]; simp
        simp only [Nat.add_zero] at hst
        simp [Builtin.append_, run_underlying ht, run_sizeOf hi, Builtin.lenOf, hroom, hf, ha0, hst]
      -- a new row
      have grown : ∀ {old : List AV} {olds : List Value} (hol : old.length = len * i.size) (hold : VRelL ι old olds) (holds : ∀ (j : Nat) (u : Value), olds[j]? = some u → w.cell? (ad1.add j) = some u) (hbig : cap1 < len + n)
          {ad : Addr} {xcap : Nat} {news : List Value} (hxv : a.eval x = .slice (some ad) n xcap) (hnl : new.length = n * i.size) (hrel : VRelL ι new news) (hcells : ∀ (j : Nat) (u : Value), news[j]? = some u → w.cell? (ad.add j) = some u),
          (execOp a.eval o).run P w = .ok (.value (.slice (some ⟨w.heap.size, 0, none⟩) (len + n) (grownCap w (len + n) cap1 el)))
            (w.drew.alloc (.cells (olds.toArray ++ news.toArray ++ Builtin.zeroCells z.cells (grownCap w (len + n) cap1 el - (len + n))) el)) ∧
          len + n ≤ grownCap w (len + n) cap1 el ∧
          grownCap w (len + n) cap1 el * i.size ≤ (olds.toArray ++ news.toArray ++ Builtin.zeroCells z.cells (grownCap w (len + n) cap1 el - (len + n))).size := by
        intro old olds hol hold holds hbig ad xcap news hxv hnl hrel hcells
        have hrl := hrel.length
        have hol' := hold.length
        have hge := grownCap_ge w (len + n) cap1 el
        refine ⟨?_, hge, ?_⟩
        · refine exec_append (P := P) (w := w) hop hc hargs hts ?_
          rw [hsv', hxv]
          exact run_append_grow (P := P) w t o.type el i z ht hi hz0 ad1 len cap1 olds (by omega) holds ad n xcap news (by omega) hcells hbig (by omega) (growslice_fits hbig hb47)
        · simp only [Array.size_append, List.size_toArray, Builtin.zeroCells, Array.size_map, Array.size_range, hz1]
          rw [← hrl, hnl, ← hol', hol, ← Nat.add_mul, ← Nat.add_mul]
          exact Nat.mul_le_mul_right _ (by omega)
      have hsrc := fun (hacc : ∀ b ∈ acc, ∀ k, h[b]? = some k → BRel P B ι w b k) => src_sound (P := P) (B := B) hx' hsl h0 hacc
      -- the first cells of the slice that is appended to
      have holdc : (hbr : BRel P B ι w p.b (.row ro cs)) → p.o + len * i.size ≤ cs.length → (len = 0 ∨ 0 < cap1) →
          ∃ olds, VRelL ι ((cs.drop p.o).take (len * i.size)) olds ∧ ∀ (j : Nat) (u : Value), olds[j]? = some u → w.cell? (ad1.add j) = some u := by
        intro hbr hfit hor
        have hrd : rdN h p (len * i.size) = some ((cs.drop p.o).take (len * i.size)) := by
          unfold rdN
          rw [hb]
          simp only
          rw [if_pos ⟨hg, hfit⟩]
        obtain ⟨_, vs, k1, k2⟩ := rdN_sound (P := P) (B := B) hrd g1 (fun k hk => by rw [hb] at hk; cases hk; exact hbr)
        refine ⟨vs, k1, fun j u hu => ?_⟩
        rcases hor with hor | hor
        · subst hor
          have := k1.length
          simp at this
          rw [List.eq_nil_of_length_eq_zero this.symm] at hu
          simp at hu
        · rw [g4 hor]
          exact k2 j u hu
      split at hr
      · -- a known capacity
        rename_i cp
        simp only [CapOk] at g3
        subst g3
        split at hr
        · rename_i hroom
          split at hr
          case isFalse => cases hr
          rename_i hc3
          obtain ⟨hro, h00, hfit⟩ := hc3
          cases hr
          have hbr := hblk _ rfl p.b (by simp) _ hb
          obtain ⟨ad, xcap, news, hxv, hnl, hrel, hcells⟩ := hsrc (fun b hb' k hk => hblk _ rfl b (by simp [hb']) k hk)
          have hrl := hrel.length
          have hfit' : len * i.size + new.length ≤ cs.length := by rw [hnl, ← Nat.add_mul]; exact hfit
          subst hro
          have hsz' : cs.length ≤ l.sz := by
            obtain ⟨_, _, c0, _, _, h4, h5⟩ := hbr l (by rw [hg]; exact g1)
            have := rowR_size h5
            omega
          obtain ⟨cur, ety, hcur, hsz, hlo, hBl, hrow, hrun⟩ := inplace (cs' := []) rfl hbr hroom h00 (by omega) hxv hnl hrel hcells
          refine ⟨ι, _, _, ⟨_, hrun, .inl rfl⟩, .sl g1 (by omega) rfl (fun _ => by rw [hlo, h00]), ?_⟩
          refine Ext.write (k := .row false cs) (l := l) hb (wrN_length _ _ _) rfl rfl (by rw [show bgen (.row false cs) = cs.length from rfl, hg]; exact g1) (misc_setRow _ _ _) (fun c' hne hc' => setRow_other _ _ _ _ hne) ?_
          intro l' hl'
          rw [wrN_length, hg, g1] at hl'
          cases hl'
          exact ⟨hlo, hBl, _, ety, setRow_heap _ _ _ _ _ _ hcur, by rw [size_put (by omega)]; exact hsz, rowR_put hrow hrel hfit'⟩
        · rename_i hbig
          have hbig : cap1 < len + n := by omega
          split at hr
          case isFalse => cases hr
          rename_i hc3
          obtain ⟨hc31, hc32⟩ := hc3
          have hacc : r.acc = some (p.b :: acc) := by split at hr <;> cases hr <;> rfl
          have hbr := hblk _ hacc p.b (by simp) _ hb
          obtain ⟨ad, xcap, news, hxv, hnl, hrel, hcells⟩ := hsrc (fun b hb' k hk => hblk _ hacc b (by simp [hb']) k hk)
          obtain ⟨olds, ho1, ho2⟩ := holdc hbr hc32 (by omega)
          have hol : ((cs.drop p.o).take (len * i.size)).length = len * i.size := by simp; omega
          obtain ⟨hrun, hge, hcapsz⟩ := grown hol ho1 ho2 hbig hxv hnl hrel hcells
          split at hr
          · rename_i hc4
            obtain ⟨hro, h00, hcl⟩ := hc4
            cases hr
            subst hro
            have hds : (cs.drop p.o).take (len * i.size) = cs.take (len * i.size) := by rw [h00]; simp
            rw [hds] at ho1 hol
            have hlt : cs.length < (cs.take (len * i.size) ++ new).length := by
              rw [List.length_append, hol, hnl, hcl, ← Nat.add_mul]
              exact Nat.mul_lt_mul_of_pos_right hbig hsize
            have hnone : ι p.b (cs.take (len * i.size) ++ new).length = none :=
              hfg p.b (by simp) (.row false cs) (.row false (cs.take (len * i.size) ++ new)) hb (by rw [List.getElem?_set_self (lt_of_get hb)]) hlt
            refine ⟨_, _, _, ⟨_, hrun, .inl rfl⟩, .sl (l := ⟨w.heap.size, 0, _⟩) (upd_same _ _ _ _) hge (.inr (by simpa using hcapsz)) (fun _ => rfl),
              grow_row hb (by rw [hg]; exact g1) hlt hnone hB fun ι' hsub => rowR_app (ho1.mono hsub) (hrel.mono hsub) _ rfl⟩
          · cases hr
            refine ⟨_, _, _, ⟨_, hrun, .inl rfl⟩, .sl (l := ⟨w.heap.size, 0, _⟩) (upd_same _ _ _ _) hge (.inr (by simpa using hcapsz)) (fun _ => rfl),
              ext_row_drew hn hB rfl fun ι' hsub => rowR_app (ho1.mono hsub) (hrel.mono hsub) _ rfl⟩
      · -- a capacity that is not known
        rename_i sz
        split at hr
        case isFalse => cases hr
        rename_i hc3
        obtain ⟨hro, h00, hcl, hszs⟩ := hc3
        cases hr
        subst hro
        have hbr := hblk _ rfl p.b (by simp) _ hb
        obtain ⟨ad, xcap, news, hxv, hnl, hrel, hcells⟩ := hsrc (fun b hb' k hk => hblk _ rfl b (by simp [hb']) k hk)
        have hrl := hrel.length
        have hlt : cs.length < (cs ++ new).length := by
          rw [List.length_append, hnl]
          have : 0 < n * i.size := Nat.mul_pos (by omega) hsize
          omega
        have hnone : ι p.b (cs ++ new).length = none := hfg p.b (by simp) (.row false cs) (.row false (cs ++ new)) hb (by rw [List.getElem?_set_self (lt_of_get hb)]) hlt
        by_cases hroom : len + n ≤ cap1
        · simp only [CapOk] at g3
          have hcap3 : l.o + p.o + cap1 * i.size ≤ l.sz := by
            rcases g3 with g3 | g3
            · omega
            · rw [hszs] at g3; exact g3
          have hmul : len * i.size + n * i.size ≤ cap1 * i.size := by rw [← Nat.add_mul]; exact Nat.mul_le_mul_right _ hroom
          obtain ⟨cur, ety, hcur, hsz, hlo, hBl, hrow, hrun⟩ := inplace (cs' := []) rfl hbr hroom h00 (by omega) hxv hnl hrel hcells
          refine ⟨upd ι p.b (cs ++ new).length ⟨l.c, 0, l.sz⟩, _, _, ⟨_, hrun, .inl rfl⟩, .sl (l := ⟨l.c, 0, l.sz⟩) (upd_same _ _ _ _) (by omega) (.inr (by simp only [Nat.zero_add]; omega)) (fun _ => rfl), ?_⟩
          refine Ext.grow (k := .row false cs) (k' := .row false (cs ++ new)) (l := l) (l' := ⟨l.c, 0, l.sz⟩) hb hlt rfl rfl (by rw [show bgen (.row false cs) = cs.length from rfl, hg]; exact g1) hnone (misc_setRow _ _ _)
            (by simp; exact (Array.getElem?_eq_some_iff.1 hcur).1) (.inr rfl) (fun c' hne hc' => setRow_other _ _ _ _ hne) ?_
          intro l' hl'
          rw [show bgen (.row false (cs ++ new)) = (cs ++ new).length from rfl, upd_same] at hl'
          cases hl'
          refine ⟨rfl, hBl, _, ety, setRow_heap _ _ _ _ _ _ hcur, by rw [size_put (by omega)]; exact hsz, ?_⟩
          have hcs : VRelL ι cs (cur.toList.take (len * i.size)) := by rw [← hcl]; exact rel_take (l := l) hrow
          exact rowR_app (hcs.mono (upd_sub hnone)) (hrel.mono (upd_sub hnone)) (cur.toList.drop (len * i.size + news.length)).toArray (by simp)
        · obtain ⟨olds, ho1, ho2⟩ := holdc hbr (by omega) (by omega)
          have hds : (cs.drop p.o).take (len * i.size) = cs := by rw [h00, List.drop_zero, ← hcl, List.take_length]
          rw [hds] at ho1
          obtain ⟨hrun, hge, hcapsz⟩ := grown (old := cs) hcl ho1 ho2 (by omega) hxv hnl hrel hcells
          refine ⟨_, _, _, ⟨_, hrun, .inl rfl⟩, .sl (l := ⟨w.heap.size, 0, _⟩) (upd_same _ _ _ _) hge (.inr (by simpa using hcapsz)) (fun _ => rfl),
            grow_row hb (by rw [hg]; exact g1) hlt hnone hB fun ι' hsub => rowR_app (ho1.mono hsub) (hrel.mono hsub) _ rfl⟩
end
end Go.Proofs.Ytocoadpepofbbaa.AM

/-
  copy; AND ALL OPERATIONS BUT THE CALLS, by one theorem.
-/
set_option linter.unusedVariables false
set_option linter.unusedSimpArgs false
namespace Go.Proofs.Ytocoadpepofbbaa.AM
open Go

section
variable {P : Program} {B : Nat} {ι : Emb} {h : List ABlk} {w : World} {e : List AV} {nt : Nat} {o : Oper} {a : Act} {r : OpR} {call : Tgt → List AV → List ABlk → Option Ret}

theorem src_any {size m n : Nat} {b : Option Ad} {c : Cap} {x : Value} {new : List AV} {acc : List Nat} (hv : VRel ι (.sl b n c) x) (hs : slCells h size m (.sl b n c) = some (new, acc))
    (hblk : ∀ b ∈ acc, ∀ k, h[b]? = some k → BRel P B ι w b k) :
    ∃ (ad : Option Addr) (cap : Nat) (news : List Value), x = .slice ad n cap ∧ m ≤ n ∧ new.length = m * size ∧ VRelL ι new news ∧ (0 < m → ∃ q, ad = some q ∧ ∀ (j : Nat) (u : Value), news[j]? = some u → w.cell? (q.add j) = some u) := by
  cases b with
  | none =>
    obtain ⟨rfl, _, rfl⟩ := hv.inv_slN
    simp only [slCells] at hs
    split at hs
    · rename_i h0
      cases hs
      subst h0
      exact ⟨none, 0, [], rfl, Nat.le_refl _, by simp, .nil, fun h => by omega⟩
    · cases hs
  | some p =>
    obtain ⟨l, cap, ad, g1, g2, g3, g4, rfl⟩ := hv.inv_sl
    simp only [slCells] at hs
    split at hs
    · rename_i hle
      simp only [Option.map_eq_some_iff, Prod.mk.injEq] at hs
      obtain ⟨cs, hrd, rfl, rfl⟩ := hs
      obtain ⟨hlen, vs, h1, h2⟩ := rdN_sound (P := P) (B := B) hrd g1 (fun k hk => hblk p.b (by simp) k hk)
      refine ⟨some ad, cap, vs, rfl, hle, hlen, h1, fun hm => ⟨ad, rfl, ?_⟩⟩
      rw [g4 (by omega)]
      exact h2
    · cases hs

theorem ok_copy {c : Call} {d s : Operand} {t u el : TypeId} (hop : o.op = .call c) (hc : c.callee = .builtin .copy) (hargs : c.args.toList = [d, s]) (hts : c.argTypes.toList = [t, u]) (ht : P.underlying t = some (.slice el)) (hsz : sizeT P el = some 1)
    {ad as : AOpd} (hd : opd d = some ad) (hs : opd s = some as) (he : ERel ι nt e a.tmps)
    (hblk : ∀ acc, r.acc = some acc → ∀ b ∈ acc, ∀ k, h[b]? = some k → BRel P B ι w b k) (hr : aOp call e h (.copy 1 ad as) = some r) : OpOk P B ι h w o a r := by
  simp only [aOp] at hr
  have hd' := opd_sound he hd
  have hs' := opd_sound he hs
  obtain ⟨i, hi, hi1⟩ := sizeT_spec hsz
  have ha : c.args = #[d, s] := Array.ext' hargs
  have hts' : c.argTypes = #[t, u] := Array.ext' hts
  split at hr
  case h_2 => cases hr
  rename_i p dl dc b n xc heq heq'
  rw [heq] at hd'
  rw [heq'] at hs'
  split at hr
  case h_1 => cases hr
  rename_i new acc hsl
  split at hr
  case h_2 => cases hr
  rename_i cs hb
  split at hr
  case isFalse => cases hr
  rename_i hcond
  cases hr
  obtain ⟨hg, hfit, hone⟩ := hcond
  obtain ⟨sad, scap, news, hsv, hmn, hnl, hrel, hcells⟩ := src_any (P := P) (B := B) hs' hsl (fun b hb k hk => hblk _ rfl b (by simp [hb]) k hk)
  obtain ⟨l, cap1, ad1, g1, g2, g3, g4, hdv⟩ := hd'.inv_sl
  have hbr := hblk _ rfl p.b (by simp) _ hb
  have hrl := hrel.length
  simp only [Nat.mul_one] at hnl
  have exec : ∀ {w' : World}, (Builtin.copy_ #[t, u] o.type #[a.eval d, a.eval s]).run P w = .ok (.int .i64 (min n dl : Nat)) w' → (execOp a.eval o).run P w = .ok (.value (.int .i64 (min n dl : Nat))) w' := by
    intro w' hr
    simp [execOp, hop, resolve, hc, ha, hts', invoke, builtin, hr]
  by_cases h0 : min n dl = 0
  · have hn0 : new = [] := List.eq_nil_of_length_eq_zero (by omega)
    subst hn0
    have hrun : (Builtin.copy_ #[t, u] o.type #[a.eval d, a.eval s]).run P w = .ok (.int .i64 (min n dl : Nat)) w := by
      rw [hdv, hsv]
      have hf : ∀ sad : Option Addr, (Builtin.firstCells i.size 0 (.slice sad n scap)).run P w = .ok #[] w := by
        intro sad
        cases sad with
        | none => exact run_firstCells_none w _ _ _ _
        | some b' => simpa using run_firstCells_some (P := P) w i.size 0 b' n scap [] (by simp) (by simp)
      have hm : Nat.min n dl = 0 := h0
      have hm' : (min n dl : Nat) = 0 := h0
      simp only [Builtin.copy_]
      simp [run_underlying ht, run_sizeOf hi, Builtin.lenOf, hm, hf, storeCells, goInt, hm']
    refine ⟨ι, _, w, ⟨_, exec hrun, .inl rfl⟩, .int _ _, ?_⟩
    refine Ext.write (k := .row false cs) (l := l) hb rfl rfl rfl (by rw [show bgen (.row false cs) = cs.length from rfl, hg]; exact g1) (Misc.refl w) (fun _ _ _ => rfl) ?_
    exact hbr
  · obtain ⟨hlo, hBl, cur, ety, hcur, hsz2, hrow⟩ := hbr l (by rw [hg]; exact g1)
    obtain ⟨q, rfl, hq⟩ := hcells (by omega)
    have had : ad1 = ⟨l.c, p.o, none⟩ := by rw [g4 (by omega), hlo]; simp
    have hrs := rowR_size hrow
    have hrun := run_copy_row (P := P) w t u o.type el l.c p.o dl cap1 q n scap cur ety news ht (by simp [hi, hi1]) hcur (by rw [← hrl, hnl]) hq (by omega) (ones_rel hrel hone)
    have hgo : goInt (news.length : Int) = .int .i64 (min n dl : Nat) := by rw [← hrl, hnl]; rfl
    rw [hgo] at hrun
    refine ⟨ι, _, _, ⟨_, exec (by rw [hdv, hsv, had]; exact hrun), .inl rfl⟩, .int _ _, ?_⟩
    refine Ext.write (k := .row false cs) (l := l) hb (wrN_length _ _ _) rfl rfl (by rw [show bgen (.row false cs) = cs.length from rfl, hg]; exact g1) (misc_setRow _ _ _) (fun c' hne hc' => setRow_other _ _ _ _ hne) ?_
    intro l' hl'
    rw [wrN_length, hg, g1] at hl'
    cases hl'
    exact ⟨hlo, hBl, _, ety, setRow_heap _ _ _ _ _ _ hcur, by rw [size_put (by omega)]; exact hsz2, rowR_put hrow hrel hfit⟩

def isCall : AOp → Bool
  | .call .. => true
  | .callV .. => true
  | _ => false

/-- **EVERY OPERATION BUT THE CALLS.** -/
theorem op_sound {ao : AOp} (hc : compOp P o.op = some ao) (hnc : isCall ao = false) (he : ERel ι nt e a.tmps) (hr : aOp call e h ao = some r)
    (hblk : ∀ acc, r.acc = some acc → ∀ b ∈ acc, ∀ k, h[b]? = some k → BRel P B ι w b k) (hn : ∀ g, ι h.length g = none) (hB : B ≤ w.heap.size)
    (hfg : ∀ b ∈ r.wr, ∀ k k', h[b]? = some k → r.h[b]? = some k' → bgen k < bgen k' → ι b (bgen k') = none) : OpOk P B ι h w o a r := by
  cases hop : o.op with
  | move x =>
    rw [hop] at hc
    simp only [compOp, Option.map_eq_some_iff] at hc
    obtain ⟨ax, h1, rfl⟩ := hc
    exact ok_mv (.inl hop) h1 he hr
  | assign x =>
    rw [hop] at hc
    simp only [compOp, Option.map_eq_some_iff] at hc
    obtain ⟨ax, h1, rfl⟩ := hc
    exact ok_mv (.inr hop) h1 he hr
  | pick c x y =>
    rw [hop] at hc
    simp only [compOp] at hc
    split at hc
    · rename_i h1 h2 h3
      cases hc
      exact ok_pick hop h1 h2 h3 he hr
    · cases hc
  | alloc t =>
    rw [hop] at hc
    simp only [compOp, Option.map_eq_some_iff] at hc
    obtain ⟨zs, h1, rfl⟩ := hc
    exact ok_new hop h1 hn hB hr
  | box t x =>
    rw [hop] at hc
    simp only [compOp, Option.map_eq_some_iff] at hc
    obtain ⟨ax, h1, rfl⟩ := hc
    exact ok_box hop h1 he hn hB hr
  | build t ps =>
    rw [hop] at hc
    simp only [compOp] at hc
    split at hc
    · rename_i h1 h2
      split at hc
      · rename_i h3
        simp only [Option.map_eq_some_iff] at hc
        obtain ⟨aps, h4, rfl⟩ := hc
        exact ok_build hop h1 h2 h3 h4 he hr
      · cases hc
    · cases hc
  | buildSlice t len ps =>
    rw [hop] at hc
    simp only [compOp] at hc
    split at hc
    · rename_i hu
      split at hc
      · rename_i h1 h2
        split at hc
        · rename_i h3
          simp only [Option.map_eq_some_iff] at hc
          obtain ⟨aps, h4, rfl⟩ := hc
          exact ok_buildSl hop hu h1 h2 h3 h4 he hn hB hr
        · cases hc
      · cases hc
    · cases hc
  | load t x =>
    rw [hop] at hc
    simp only [compOp] at hc
    split at hc
    · rename_i h1 h2
      cases hc
      exact ok_load hop h1 h2 he hblk hr
    · cases hc
  | store t x y =>
    rw [hop] at hc
    simp only [compOp] at hc
    split at hc
    · rename_i h1 h2 h3
      cases hc
      exact ok_store hop h1 h2 h3 he hblk hr
    · cases hc
  | nilCheck x =>
    rw [hop] at hc
    simp only [compOp, Option.map_eq_some_iff] at hc
    obtain ⟨ax, h1, rfl⟩ := hc
    exact ok_nilCheck hop h1 he hr
  | binOp op t x y u =>
    rw [hop] at hc
    simp only [compOp] at hc
    split at hc
    · rename_i h1 h2 h3
      cases hc
      exact ok_bin hop h2 h3 he hr
    · rename_i h1 h2 h3
      cases hc
      exact ok_binB hop h1 h2 h3 he hr
    · rename_i h1 h2 h3
      cases hc
      exact ok_bin hop h2 h3 he hr
    · rename_i h1 h2 h3
      split at hc
      · rename_i ks hk
        split at hc
        · rename_i hg
          cases op <;> simp only [Option.some.injEq] at hc <;> first
            | (subst hc; exact ok_eqAgg (ne := false) hop h1 rfl hk hg h2 h3 he hr)
            | (subst hc; exact ok_eqAgg (ne := true) hop h1 rfl hk hg h2 h3 he hr)
            | cases hc
        · cases hc
      · cases hc
    · rename_i h1 h2 h3
      split at hc
      · rename_i ks hk
        split at hc
        · rename_i hg
          cases op <;> simp only [Option.some.injEq] at hc <;> first
            | (subst hc; exact ok_eqAgg (ne := false) hop h1 rfl hk hg h2 h3 he hr)
            | (subst hc; exact ok_eqAgg (ne := true) hop h1 rfl hk hg h2 h3 he hr)
            | cases hc
        · cases hc
      · cases hc
    · rename_i h1 h2 h3
      cases op <;> simp only [Option.some.injEq] at hc <;> first
        | (subst hc; exact ok_isNil (ne := false) hop h1 h2 h3 he hr)
        | (subst hc; exact ok_isNil (ne := true) hop h1 h2 h3 he hr)
        | cases hc
    · cases hc
  | unOp op t x =>
    rw [hop] at hc
    simp only [compOp, Option.map_eq_some_iff] at hc
    obtain ⟨ax, h1, rfl⟩ := hc
    exact ok_un hop h1 he hr
  | convert s d x =>
    rw [hop] at hc
    simp only [compOp] at hc
    split at hc
    · rename_i h1 h2 h3
      cases hc
      exact ok_conv hop h1 h2 h3 he hr
    · rename_i h1 h2 h3
      split at hc
      · rename_i h4
        cases hc
        exact ok_bytesStr hop h1 h4 h2 h3 he hblk hr
      · cases hc
    · cases hc
  | makeFunc fn first cap =>
    rw [hop] at hc
    cases fn <;> simp only [compOp] at hc <;> try (cases hc; done)
    split at hc
    · rename_i h0
      simp only [Option.map_eq_some_iff] at hc
      obtain ⟨as, h1, rfl⟩ := hc
      exact ok_mkFn hop h0 h1 he hr
    · cases hc
  | makeMap t rsv =>
    rw [hop] at hc
    simp only [compOp] at hc
    split at hc
    · split at hc
      · rename_i h1
        simp only [Option.map_eq_some_iff] at hc
        obtain ⟨kk, h2, rfl⟩ := hc
        exact ok_mkMap hop hn hB hr
      · cases hc
    · cases hc
  | makeSlice t x y =>
    rw [hop] at hc
    simp only [compOp] at hc
    split at hc
    · rename_i h1
      split at hc
      · rename_i h2 h3 h4 h5
        split at hc
        · rename_i h6
          cases hc
          exact ok_mkSl hop h1 h2 h3 h6 h4 h5 he hn hB hr
        · cases hc
      · cases hc
    · cases hc
  | slice t x lo hi mx =>
    rw [hop] at hc
    simp only [compOp] at hc
    split at hc
    · rename_i m
      split at hc
      · rename_i h1 h2 h3 h4 h5
        simp only [Option.map_eq_some_iff] at hc
        obtain ⟨s, h6, rfl⟩ := hc
        cases hi with
        | none => simp [opdO] at h4
        | some hi =>
          simp only [opdO, Option.map_eq_some_iff, Option.some.injEq] at h4
          obtain ⟨ahi, h7, rfl⟩ := h4
          exact ok_slice3 hop h1 h6 h2 h3 h7 h5 he hr
      · cases hc
    · split at hc
      · rename_i h1 h2 h3 h4
        simp only [Option.map_eq_some_iff] at hc
        obtain ⟨s, h6, rfl⟩ := hc
        exact ok_slice hop h1 h6 h2 h3 h4 he hr
      · rename_i h1 h2 h3 h4
        cases hc
        exact ok_sliceS hop h1 h2 h3 h4 he hr
      · rename_i h1 h2 h3 h4
        simp only [Option.map_eq_some_iff] at hc
        obtain ⟨s, h6, rfl⟩ := hc
        have hl : lo = none := by cases lo with | none => rfl | some y => simp [opdO] at h3
        have hh : hi = none := by cases hi with | none => rfl | some y => simp [opdO] at h4
        subst hl; subst hh
        exact ok_sliceA hop h1 h6 h2 he hr
      · cases hc
  | fieldAddr t x f =>
    rw [hop] at hc
    simp only [compOp] at hc
    split at hc
    · rename_i h1
      split at hc
      · rename_i h2 h3
        split at hc
        · rename_i h4
          split at hc
          · cases hc
          · rename_i h5
            cases hc
            exact ok_fieldAddr hop h1 h2 h4 h5 h3 he hr
        · cases hc
      · cases hc
    · cases hc
  | field t x f =>
    rw [hop] at hc
    simp only [compOp] at hc
    split at hc
    · rename_i h1
      split at hc
      · rename_i h2 h3
        simp only [Option.map_eq_some_iff] at hc
        obtain ⟨s, h6, rfl⟩ := hc
        exact ok_field hop h1 h2 h6 h3 he hr
      · cases hc
    · cases hc
  | indexAddr t x y =>
    rw [hop] at hc
    simp only [compOp] at hc
    split at hc
    · rename_i h1 h2 h3
      simp only [Option.map_eq_some_iff] at hc
      obtain ⟨s, h6, rfl⟩ := hc
      exact ok_idxArr hop h1 h6 h2 h3 he hr
    · rename_i h1 h2 h3
      simp only [Option.map_eq_some_iff] at hc
      obtain ⟨s, h6, rfl⟩ := hc
      exact ok_idxSl hop h1 h6 h2 h3 he hr
    · cases hc
  | index t x y =>
    rw [hop] at hc
    simp only [compOp] at hc
    split at hc
    · rename_i h1 h2 h3
      split at hc
      · rename_i h4 h5
        cases hc
        exact ok_index hop h1 h4 h5 h2 h3 he hr
      · cases hc
    · rename_i h1 h2 h3
      cases hc
      exact ok_indexS hop h1 h2 h3 he hr
    · cases hc
  | lookup t x y ok =>
    rw [hop] at hc
    simp only [compOp] at hc
    split at hc
    · rename_i h1
      split at hc
      · rename_i h2 h3 h4 h5
        split at hc
        · rename_i h6
          simp only [Option.map_eq_some_iff] at hc
          obtain ⟨z, h7, rfl⟩ := hc
          exact ok_lookup hop h1 h2 h3 h6 h7 h4 h5 he hblk hr
        · cases hc
      · cases hc
    · cases hc
  | mapUpdate t x y z =>
    rw [hop] at hc
    simp only [compOp] at hc
    split at hc
    · rename_i h1
      split at hc
      · rename_i h2 h3 h4 h5
        cases hc
        exact ok_mapUpd hop h1 h2 h3 h4 h5 he hblk hr
      · cases hc
    · cases hc
  | extract x i =>
    rw [hop] at hc
    simp only [compOp, Option.map_eq_some_iff] at hc
    obtain ⟨ax, h1, rfl⟩ := hc
    exact ok_extract hop h1 he hr
  | call c =>
    rw [hop] at hc
    simp only [compOp, compCall] at hc
    split at hc
    · simp only [Option.map_eq_some_iff] at hc
      obtain ⟨as, h1, rfl⟩ := hc
      simp [isCall] at hnc
    · split at hc
      · cases hc
        simp [isCall] at hnc
      · cases hc
    · rename_i hcal
      split at hc
      · rename_i h1 h2
        split at hc
        · rename_i h3
          simp only [Option.map_eq_some_iff] at hc
          obtain ⟨ax, h4, rfl⟩ := hc
          exact ok_len hop hcal h1 h2 h3 h4 he hr
        · rename_i h3
          simp only [Option.map_eq_some_iff] at hc
          obtain ⟨ax, h4, rfl⟩ := hc
          exact ok_lenS hop hcal h1 h2 h3 h4 he hr
        · cases hc
      · cases hc
    · rename_i hcal
      simp only [Option.map_eq_some_iff] at hc
      obtain ⟨as, h1, rfl⟩ := hc
      exact ok_mx hop hcal h1 he hr
    · rename_i hcal
      simp only [Option.map_eq_some_iff] at hc
      obtain ⟨as, h1, rfl⟩ := hc
      exact ok_mn hop hcal h1 he hr
    · rename_i hcal
      split at hc
      · rename_i t u h1 h2
        split at hc
        · cases hc
        · rename_i htu
          have htu : t = u := Classical.byContradiction htu
          subst htu
          split at hc
          · rename_i h3 h4
            split at hc
            · rename_i h5 h6 h7
              split at hc
              · rename_i h8
                cases hc
                exact ok_append hop hcal h1 h2 h3 h5 h8.1 h8.2.1 h8.2.2 h6 h7 he hblk hn hB hfg hr
              · cases hc
            · cases hc
          · cases hc
      · cases hc
    · rename_i hcal
      split at hc
      · rename_i h1 h2
        split at hc
        · rename_i h3
          split at hc
          · rename_i h5 h6 h7
            split at hc
            · rename_i h8
              subst h8
              cases hc
              exact ok_copy hop hcal h1 h2 h3 h5 h6 h7 he hblk hr
            · cases hc
          · cases hc
        · cases hc
      · cases hc
    · cases hc
  | _ => rw [hop] at hc; simp only [compOp] at hc; cases hc
end
end Go.Proofs.Ytocoadpepofbbaa.AM

/-
  CLOSEDNESS: no reference of the abstract machine's values or heap points beyond the heap; and what lies low refers to what lies low.
-/
set_option linter.unusedVariables false
set_option linter.unusedSimpArgs false
namespace Go.Proofs.Ytocoadpepofbbaa.AM
open Go

def Cl (n : Nat) (l : List Nat) : Prop := ∀ b ∈ l, b < n
theorem Cl.le {n m : Nat} {l : List Nat} (h : Cl n l) (hle : n ≤ m) : Cl m l := fun b hb => Nat.lt_of_lt_of_le (h b hb) hle
theorem Cl.nil (n : Nat) : Cl n [] := fun b hb => by cases hb

theorem mem_refsL {b : Nat} : ∀ {cs : List AV}, b ∈ refsL cs ↔ ∃ v ∈ cs, b ∈ refs v
  | [] => by simp [refsL]
  | v :: vs => by
    simp only [refsL, List.mem_append, mem_refsL (cs := vs)]
    constructor
    · rintro (h | ⟨u, h1, h2⟩)
      · exact ⟨v, by simp, h⟩
      · exact ⟨u, by simp [h1], h2⟩
    · rintro ⟨u, h1, h2⟩
      rcases List.mem_cons.1 h1 with rfl | h1
      · exact .inl h2
      · exact .inr ⟨u, h1, h2⟩

theorem Cl.of_mem {n : Nat} {cs : List AV} (h : ∀ v ∈ cs, Cl n (refs v)) : Cl n (refsL cs) := fun b hb =>
  let ⟨v, h1, h2⟩ := mem_refsL.1 hb; h v h1 b h2
theorem Cl.mem {n : Nat} {cs : List AV} (h : Cl n (refsL cs)) {v : AV} (hv : v ∈ cs) : Cl n (refs v) := fun b hb => h b (mem_refsL.2 ⟨v, hv, hb⟩)
theorem Cl.sub {n : Nat} {cs ds : List AV} (h : Cl n (refsL cs)) (hs : ∀ v ∈ ds, v ∈ cs) : Cl n (refsL ds) := Cl.of_mem fun v hv => h.mem (hs v hv)
theorem Cl.append {n : Nat} {cs ds : List AV} (h : Cl n (refsL cs)) (k : Cl n (refsL ds)) : Cl n (refsL (cs ++ ds)) := Cl.of_mem fun v hv => by
  rcases List.mem_append.1 hv with hv | hv
  · exact h.mem hv
  · exact k.mem hv

theorem eget_mem : ∀ (e : List AV) (i : Nat), eget e i ∈ e ∨ eget e i = undefA
  | [], _ => .inr rfl
  | x :: l, 0 => .inl (by simp [eget])
  | x :: l, i + 1 => by
    rcases eget_mem l i with h | h
    · exact .inl (by simp [eget, h])
    · exact .inr (by simp [eget, h])
theorem undef_cl (n : Nat) : Cl n (refs undefA) := fun b hb => by simp [undefA, refs, refsL] at hb
theorem eget_cl {n : Nat} {e : List AV} (h : Cl n (refsL e)) (i : Nat) : Cl n (refs (eget e i)) := by
  rcases eget_mem e i with hm | hm
  · exact h.mem hm
  · rw [hm]; exact undef_cl n
theorem eset_cl {n : Nat} {v : AV} (hv : Cl n (refs v)) : ∀ {e : List AV} {i : Nat}, Cl n (refsL e) → Cl n (refsL (eset e i v))
  | [], 0, _ => by simpa [eset, refsL] using hv
  | [], i + 1, h => by
    simp only [eset]
    exact Cl.of_mem fun u hu => by
      rcases List.mem_cons.1 hu with rfl | hu
      · exact undef_cl n
      · exact (eset_cl hv (e := []) (i := i) (Cl.nil n)).mem hu
  | x :: l, 0, h => by
    simp only [eset]
    exact Cl.of_mem fun u hu => by
      rcases List.mem_cons.1 hu with rfl | hu
      · exact hv
      · exact h.mem (by simp [hu])
  | x :: l, i + 1, h => by
    simp only [eset]
    exact Cl.of_mem fun u hu => by
      rcases List.mem_cons.1 hu with rfl | hu
      · exact h.mem (by simp)
      · exact (eset_cl hv (e := l) (i := i) (h.sub fun u hu => by simp [hu])).mem hu
theorem pushTmps_cl {n : Nat} : ∀ {e : List AV} {ts : List Nat} {vs : List AV}, Cl n (refsL e) → Cl n (refsL vs) → Cl n (refsL (pushTmps e ts vs))
  | e, [], vs, h, _ => by cases vs <;> simpa [pushTmps] using h
  | e, _ :: _, [], h, _ => by simpa [pushTmps] using h
  | e, t :: ts, v :: vs, h, k => by
    simp only [pushTmps]
    exact pushTmps_cl (eset_cl (k.mem (by simp)) h) (k.sub fun u hu => by simp [hu])

theorem av_cl {n : Nat} {e : List AV} (h : Cl n (refsL e)) {x : AOpd} (hx : refsL (opndCs x) = []) : Cl n (refs (av e x)) := by
  cases x with
  | t i => exact eget_cl h i
  | c v => simp [opndCs, refsL] at hx; simp [av, hx]; exact Cl.nil n
theorem refsL_append (a b : List AV) : refsL (a ++ b) = refsL a ++ refsL b := by
  induction a with
  | nil => rfl
  | cons v vs ih => simp [refsL, ih]
theorem avs_cl {n : Nat} {e : List AV} (h : Cl n (refsL e)) : ∀ {xs : List AOpd}, refsL (opndsCs xs) = [] → Cl n (refsL (xs.map (av e)))
  | [], _ => Cl.nil n
  | x :: xs, hx => by
    simp only [opndsCs, refsL_append, List.append_eq_nil_iff] at hx
    refine Cl.of_mem fun v hv => ?_
    rcases List.mem_cons.1 hv with rfl | hv
    · exact av_cl h hx.1
    · exact (avs_cl h hx.2).mem hv
theorem parts_cl {n : Nat} {e : List AV} (h : Cl n (refsL e)) : ∀ {ps : List (Nat × Nat × AOpd)}, refsL (partsCs ps) = [] → ∀ p ∈ ps, Cl n (refs (av e p.2.2))
  | [], _, p, hp => by cases hp
  | q :: ps, hx, p, hp => by
    simp only [partsCs, refsL_append, List.append_eq_nil_iff] at hx
    rcases List.mem_cons.1 hp with rfl | hp
    · exact av_cl h hx.1
    · exact parts_cl h hx.2 p hp

theorem cells_cl {n : Nat} {v : AV} (h : Cl n (refs v)) : Cl n (refsL v.cells) := by
  cases v <;> first | exact h | (simpa [AV.cells, refsL] using h)
theorem mem_wrN {v : AV} : ∀ {new cs : List AV} {o : Nat}, v ∈ wrN cs o new → v ∈ cs ∨ v ∈ new
  | [], cs, o, h => .inl h
  | u :: new, cs, o, h => by
    rcases mem_wrN (new := new) h with h1 | h1
    · rcases List.mem_or_eq_of_mem_set h1 with h2 | h2
      · exact .inl h2
      · exact .inr (by simp [h2])
    · exact .inr (by simp [h1])
theorem wrN_cl {n : Nat} {cs new : List AV} {o : Nat} (h : Cl n (refsL cs)) (k : Cl n (refsL new)) : Cl n (refsL (wrN cs o new)) := Cl.of_mem fun v hv => by
  rcases mem_wrN hv with hv | hv
  · exact h.mem hv
  · exact k.mem hv
theorem aFill_cl {n : Nat} : ∀ {ps : List (Nat × Nat × AV)} {cells cs : List AV}, aFill cells ps = some cs → Cl n (refsL cells) → (∀ p ∈ ps, Cl n (refs p.2.2)) → Cl n (refsL cs)
  | [], cells, cs, h, hc, _ => by simp [aFill] at h; subst h; exact hc
  | (off, size, v) :: ps, cells, cs, h, hc, hp => by
    simp only [aFill] at h
    split at h
    · exact aFill_cl h (wrN_cl hc (cells_cl (hp (off, size, v) (by simp)))) fun p hp' => hp p (by simp [hp'])
    · cases h
theorem aPart_cl {n : Nat} {k : Option Nat} {off : Nat} {cs : List AV} {v : AV} (h : aPart k off cs = some v) (hc : Cl n (refsL cs)) : Cl n (refs v) := by
  cases k with
  | some k =>
    simp [aPart] at h
    subst h
    exact hc.sub (ds := (cs.drop off).take k) fun v hv => List.mem_of_mem_drop (List.mem_of_mem_take hv)
  | none => exact hc.mem (List.mem_of_getElem? (by simpa [aPart] using h))

/-! ### the heap -/
def okCode : ACode → Bool
  | .skip => true
  | .region ops _ _ => ops.all fun o => clOp o.op
  | .seq a b => okCode a && okCode b
  | .cond _ t e => okCode t && okCode e
  | .block _ b => okCode b
  | .loop b => okCode b
  | .exit _ => true
  | .ret => true
  | .rangeF f _ a b => (refsL (opndCs f)).isEmpty && okCode a && okCode b

def BCl (n : Nat) : ABlk → Prop
  | .row _ cs => Cl n (refsL cs)
  | .map _ _ es => ∀ p ∈ es, Cl n (refs p.1) ∧ Cl n (refs p.2)
  | .defr => True
  | .loop lp => Cl n (refsL lp.e) ∧ okCode lp.assign = true ∧ okCode lp.body = true
theorem BCl.le {n m : Nat} {k : ABlk} (h : BCl n k) (hle : n ≤ m) : BCl m k := by
  cases k with
  | row ro cs => exact Cl.le h hle
  | map ag ks es => exact fun p hp => ⟨(h p hp).1.le hle, (h p hp).2.le hle⟩
  | defr => trivial
  | loop lp => exact ⟨h.1.le hle, h.2⟩
/-- What lies below 'lo' refers to what lies below 'lo'. -/
def HCl (lo : Nat) (h : List ABlk) : Prop := ∀ (b : Nat) (k : ABlk), h[b]? = some k → b < lo → BCl lo k
theorem HCl.at {h : List ABlk} (H : HCl h.length h) {b : Nat} {k : ABlk} (hk : h[b]? = some k) : BCl h.length k := H b k hk (lt_of_get hk)

theorem rdN_row {h : List ABlk} {p : Ad} {n : Nat} {cs : List AV} (hr : rdN h p n = some cs) : ∃ ro c, h[p.b]? = some (.row ro c) ∧ ∀ v ∈ cs, v ∈ c := by
  simp only [rdN] at hr
  split at hr
  · rename_i ro c hc
    split at hr
    · cases hr
      exact ⟨ro, c, hc, fun v hv => List.mem_of_mem_drop (List.mem_of_mem_take hv)⟩
    · cases hr
  · cases hr
theorem rd1_row {h : List ABlk} {p : Ad} {v : AV} (hr : rd1 h p = some v) : ∃ ro c, h[p.b]? = some (.row ro c) ∧ v ∈ c := by
  simp only [rd1] at hr
  split at hr
  · rename_i ro c hc
    split at hr
    · exact ⟨ro, c, hc, List.mem_of_getElem? hr⟩
    · cases hr
  · cases hr
theorem rdN_cl {h : List ABlk} (H : HCl h.length h) {p : Ad} {n : Nat} {cs : List AV} (hr : rdN h p n = some cs) : Cl h.length (refsL cs) := by
  obtain ⟨ro, c, hc, hs⟩ := rdN_row hr
  exact Cl.sub (H.at hc) hs
theorem rd1_cl {h : List ABlk} (H : HCl h.length h) {p : Ad} {v : AV} (hr : rd1 h p = some v) : Cl h.length (refs v) := by
  obtain ⟨ro, c, hc, hs⟩ := rd1_row hr
  exact Cl.mem (H.at hc) hs
theorem slCells_cl {h : List ABlk} (H : HCl h.length h) {size n : Nat} {s : AV} {new : List AV} {acc : List Nat} (hr : slCells h size n s = some (new, acc)) : Cl h.length (refsL new) := by
  unfold slCells at hr
  split at hr
  · split at hr
    · cases hr; exact Cl.nil _
    · cases hr
  · split at hr
    · simp only [Option.map_eq_some_iff] at hr
      obtain ⟨cs, h1, h2⟩ := hr
      cases h2
      exact rdN_cl H h1
    · cases hr
  · cases hr

/-- What a step keeps closed. -/
structure OpCl (h : List ABlk) (v : AV) (h' : List ABlk) (wr : List Nat) (lk : Option (Nat × Nat)) : Prop where
  len : h.length ≤ h'.length
  v : Cl h'.length (refs v)
  hh : HCl h'.length h'
  keep : ∀ b : Nat, b < h.length → b ∉ wr → h'[b]? = h[b]?
  lo : ∀ lo, lo ≤ h.length → HCl lo h → HCl (adj lo lk h'.length) h'

theorem adj_le {lo : Nat} {lk : Option (Nat × Nat)} {n : Nat} (h : lo ≤ n) : lo ≤ adj lo lk n ∧ adj lo lk n ≤ n := by
  unfold adj
  split
  · split <;> omega
  · omega

theorem OpCl.pure {h : List ABlk} (H : HCl h.length h) {v : AV} (hv : Cl h.length (refs v)) : OpCl h v h [] none :=
  ⟨Nat.le_refl _, hv, H, fun _ _ _ => rfl, fun lo _ hlo => hlo⟩
theorem get_push {h : List ABlk} {k k' : ABlk} {b : Nat} (hk : (h ++ [k])[b]? = some k') : h[b]? = some k' ∨ (b = h.length ∧ k' = k) := by
  rcases Nat.lt_trichotomy b h.length with h1 | h1 | h1
  · rw [List.getElem?_append_left h1] at hk; exact .inl hk
  · subst h1; simp at hk; exact .inr ⟨rfl, hk.symm⟩
  · rw [List.getElem?_eq_none (by simp; omega)] at hk; cases hk
theorem OpCl.push {h : List ABlk} (H : HCl h.length h) {k : ABlk} (hk : BCl (h.length + 1) k) {v : AV} (hv : Cl (h.length + 1) (refs v)) : OpCl h v (h ++ [k]) [] none := by
  refine ⟨by simp, by simpa using hv, ?_, fun b hb _ => List.getElem?_append_left hb, ?_⟩
  · intro b k' hk' _
    simp only [List.length_append, List.length_singleton]
    rcases get_push hk' with h1 | ⟨_, rfl⟩
    · exact (H.at h1).le (by omega)
    · exact hk
  · intro lo hle hlo b k' hk' hb
    rcases get_push hk' with h1 | ⟨rfl, rfl⟩
    · exact hlo b k' h1 hb
    · simp [adj] at hb; omega
theorem foldl_max_ge : ∀ (l : List Nat) (m : Nat), m ≤ l.foldl max m ∧ ∀ x ∈ l, x ≤ l.foldl max m
  | [], m => by simp
  | y :: l, m => by
    obtain ⟨h1, h2⟩ := foldl_max_ge l (max m y)
    refine ⟨by simp only [List.foldl_cons]; omega, fun x hx => ?_⟩
    rcases List.mem_cons.1 hx with rfl | hx
    · simp only [List.foldl_cons]; omega
    · exact h2 x hx
/-- A written block: what goes in is noted. -/
theorem OpCl.write {h : List ABlk} (H : HCl h.length h) {b : Nat} {k k' : ABlk} (hk : h[b]? = some k) {new : List AV} (hn : Cl h.length (refsL new))
    (hk' : ∀ n, BCl n k → Cl n (refsL new) → BCl n k') {v : AV} (hv : Cl h.length (refs v)) : OpCl h v (h.set b k') [b] (lkOf b new) := by
  have hb := lt_of_get hk
  have hget : ∀ {b1 : Nat} {k1 : ABlk}, (h.set b k')[b1]? = some k1 → (b1 = b ∧ k1 = k') ∨ h[b1]? = some k1 := by
    intro b1 k1 h1
    by_cases e : b = b1
    · subst e
      rw [List.getElem?_set_self hb] at h1
      exact .inl ⟨rfl, by cases h1; rfl⟩
    · rw [List.getElem?_set_ne e] at h1
      exact .inr h1
  refine ⟨by simp, by simpa using hv, ?_, fun b1 hb1 hn1 => List.getElem?_set_ne (fun e => hn1 (by simp [e])), ?_⟩
  · intro b1 k1 h1 _
    simp only [List.length_set]
    rcases hget h1 with ⟨_, rfl⟩ | h1
    · exact hk' _ (H.at hk) hn
    · exact H.at h1
  · intro lo hle hlo
    have hfull : HCl h.length (h.set b k') := by
      intro b1 k1 h1 _
      rcases hget h1 with ⟨_, rfl⟩ | h1
      · exact hk' _ (H.at hk) hn
      · exact H.at h1
    have hnew : ∀ m, b < m → (∀ r ∈ (refsL new).filter (b < ·), r < m) → Cl m (refsL new) := by
      intro m hbm hr x hx
      by_cases hxb : b < x
      · exact hr x (by simp [hx, hxb])
      · omega
    unfold lkOf
    split
    · rename_i hnil
      simp only [adj]
      intro b1 k1 h1 hb1
      rcases hget h1 with ⟨rfl, rfl⟩ | h1
      · exact hk' _ (hlo _ _ hk hb1) (hnew lo hb1 (by rw [hnil]; simp))
      · exact hlo b1 k1 h1 hb1
    · rename_i r rs hrs
      have hmax := foldl_max_ge (r :: rs) 0
      simp only [adj, List.length_set]
      split
      · exact hfull
      · rename_i hno
        intro b1 k1 h1 hb1
        rcases hget h1 with ⟨rfl, rfl⟩ | h1
        · refine hk' _ (hlo _ _ hk hb1) (hnew lo hb1 (fun x hx => ?_))
          rw [hrs] at hx
          have := hmax.2 x hx
          omega
        · exact hlo b1 k1 h1 hb1

theorem aBin_cl {op : BinOp} {x y v : AV} (h : aBin op x y = some v) : refs v = [] := by
  unfold aBin at h
  split at h
  · repeat' split at h
    all_goals (cases h <;> simp only [refs])
  · split at h
    all_goals first | (cases h <;> simp only [refs]; done) | (split at h <;> cases h <;> simp only [refs])
  · cases h
theorem aBinB_cl {op : BinOp} {x y v : AV} (h : aBinB op x y = some v) : refs v = [] := by
  unfold aBinB at h
  split at h
  · split at h
    all_goals (cases h <;> simp only [refs])
  · cases h
theorem aUn_cl {op : UnOp} {x v : AV} (h : aUn op x = some v) : refs v = [] := by
  unfold aUn at h
  split at h
  · split at h
    all_goals (cases h <;> simp only [refs])
  · split at h
    all_goals (cases h <;> simp only [refs])
  · cases h
theorem aEqAgg_cl {ks : List (Option IntKind)} {ne : Bool} {x y v : AV} (h : aEqAgg ks ne x y = some v) : refs v = [] := by
  unfold aEqAgg at h
  repeat' split at h
  all_goals (cases h <;> simp only [refs])
theorem foldO_cl {n : Nat} {f : AV → AV → Option AV} (hf : ∀ x y v, f x y = some v → refs v = []) : ∀ {xs : List AV} {x v : AV}, foldO f x xs = some v → Cl n (refs x) → Cl n (refs v)
  | [], x, v, h, hx => by simp [foldO] at h; subst h; exact hx
  | y :: ys, x, v, h, hx => by
    simp only [foldO] at h
    split at h
    · rename_i z hz
      exact foldO_cl hf h (by rw [hf _ _ _ hz]; exact Cl.nil n)
    · cases h
theorem aMax_cl (x y v : AV) (h : aMax x y = some v) : refs v = [] := by
  unfold aMax at h
  split at h
  · injection h with h; subst h; rfl
  · cases h
theorem aMin_cl (x y v : AV) (h : aMin x y = some v) : refs v = [] := by
  unfold aMin at h
  split at h
  · injection h with h; subst h; rfl
  · cases h
theorem aFind_mem {k : List Int} : ∀ {es : List (AV × AV)} {i j : Nat} {v : AV}, aFind k es i = some (j, v) → ∃ x, (x, v) ∈ es
  | [], i, j, v, h => by simp [aFind] at h
  | (x, u) :: es, i, j, v, h => by
    simp only [aFind] at h
    split at h
    · cases h; exact ⟨x, by simp⟩
    · obtain ⟨y, hy⟩ := aFind_mem h
      exact ⟨y, by simp [hy]⟩

end Go.Proofs.Ytocoadpepofbbaa.AM
