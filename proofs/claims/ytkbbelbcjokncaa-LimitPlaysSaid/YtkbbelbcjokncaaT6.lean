/- The walk of evict. No conditions. -/
import Derived.Test.YtkbbelbcjokncaaT6a
import Derived.Maps.RangeWalk
import Derived.Sort.MapsRangeIn
namespace Go.Proofs.Ytkbbelbcjokncaa
open Go.RowKit Go.Maps Go.WideMaps
variable {w w' : World} {base g m : Nat} {own : Nat → Prop} {t : LT} {D : DataW Unit}
def mkP : Option Nat → Value
  | none => .pointer none
  | some b => .pointer (some ⟨b, 0, none⟩)
theorem ptrElem_inv (v : Value) (y : DataW Unit × List MemPlace) (h : ptrElem v = some y) : ∃ c, v = mkP c := by
  unfold ptrElem at h
  split at h
  · exact ⟨none, rfl⟩
  · rename_i c
    exact ⟨some c, rfl⟩
  · cases h
theorem keyOf_str {s : ByteArray} {kl : Lit} (h : keyOf Try.prog 9 (.string s) = some kl) : kl = .string s.data.toList ∧ s.size ≤ maxLen := by
  by_cases hs : s.size ≤ maxLen
  · rw [keyOf_string_mk Try.underlying9 hs] at h
    exact ⟨(Option.some.inj h).symm, hs⟩
  · simp [keyOf, Try.underlying9, mapKey, hs] at h
theorem ranges_drewN {m r n cnt : Nat} {left : Lit → Bool} (h : w.ranges Try.prog 9 ptrElem m r n D left cnt) (q : Nat) : (w.drewN q).ranges Try.prog 9 ptrElem m r n D left cnt := h
def EvictPost (base g m : Nat) (own : Nat → Prop) (t : LT) (w : World) (e : Ending) (w' : World) : Prop := e = .returned (.tuple #[]) ∧ ∃ o D', Goes t o ∧ Tbl w' base own g (t.cut o) m D' ∧ Turns own w w'
set_option maxRecDepth 100000 in
set_option maxHeartbeats 600000 in
theorem evict_any (h : Tbl w base own g t m D) (hn : 0 < t.n) : Calls Try.prog 17 #[.pointer (some ⟨g, 0, none⟩)] w (EvictPost base g m own t w) := by
  have f2 := h.field (i := 2) rfl
  have hgl := (h.bnd _ h.ownG).2
  have hml := (h.bnd _ h.ownM).2
  have Hh := Lib.hid h
  clear h
  go_enter Try.func17, Try.ntmps17
  go_wp2_with (at_range; go_must (refine wpList_range_own _ rfl _ _ rfl 9 47 (string_keyed Try.underlying9) Try.underlying44 ptrElem m t.n D rfl Hh.out.map ?_; intro w0 hrg0 hg0 hs0))
  go_frame
  go_loopw [2] (fun v wr => ∃ (o : ByteArray) (left : Lit → Bool) (cnt : Nat), v = .string o ∧ o.size ≤ maxLen ∧ wr.ranges Try.prog 9 ptrElem m w.heap.size t.n D left cnt ∧ Hid (w.grownBy wr none) ∧ Hid (Cand t left o.data.toList) ∧ Hid (t.bk o.data.toList = none → cnt = t.n)) (fun _ wr => wr.rangeLeft m w.heap.size)
  case atStart => exact ⟨⟨#[]⟩, _, _, rfl, by simp only [maxLen]; show 0 ≤ _; omega, hrg0, hg0, Cand.start t _ (fun k hk => by
      cases hb : t.bk k with
      | none => exact absurd hb hk
      | some p => obtain ⟨b, hat, _, _⟩ := Hh.out.some_ k p hb; exact Maps.has_true_of_atKey hat) _, fun _ => Hh.out.size⟩
  case round =>
    obtain ⟨o, left, cnt, rfl, hos, hrg, hg, hC, hcn⟩ := hrel
    have hle := hrg.left_eq
    have f2r : wr.cell? ⟨g, 2, none⟩ = some (.map (some m)) := hg.out.cell f2 (by simp)
    clear f2
    go_wp2_with (at_next; refine wpList_next_ranges _ rfl _ rfl 9 (string_keyed Try.underlying9) ptrElem Value.string mkP (fun key kl hk => Maps.keyOf_string_inv Try.underlying9 hk) ptrElem_inv m w.heap.size t.n D left cnt rfl hrg ?_ ?_)
    · intro h0 hl0
      have hgoes : Goes t o.data.toList := by
        rcases hC.out with ⟨hb, _⟩ | ⟨po, hpo, h⟩
        · have := hcn.out hb; omega
        · exact ⟨po, hpo, fun k p hk => h k p hk (hl0 _)⟩
      have Hgo := Lib.hid hgoes
      have hTr := Hh.out.keep (w' := wr) hg.out.size (fun k hk => hg.out.block k (Hh.out.bnd k hk).2 (by simp))
      have HTr := Lib.hid hTr
      have hti := hTr.map.tidy (string_keyed Try.underlying9)
      have Hti := Lib.hid hti
      have Hrg := Lib.hid hrg
      clear hgoes hTr hti hrg
      go_wp2_with (at_delete; go_must (refine wpList_delete_own _ rfl _ _ _ _ rfl 47 (string_keyed Try.underlying9) Try.underlying44 ptrElem m t.n D rfl HTr.out.map _ _ rfl (keyOf_string_mk Try.underlying9 hos) ?_; intro w3 hm3 htu3))
      first
        | go_end0
        | (refine bodyPost_ret (results_none rfl _ _ _) rfl ?_)
      obtain ⟨po, hpo, _⟩ := Hgo.out
      obtain ⟨h1, h2⟩ := HTr.out.cut (w' := w3) (k := o.data.toList) (by rw [hpo]; simp) Hti.out hm3 htu3.grown
      exact ⟨rfl, o.data.toList, _, Hgo.out, h1, (Turns.of_grown hg.out (fun k e => by cases e)).trans h2⟩
    · intro x c kl ya yb w2 cnt2 hkx hlx hRv hat hrg2 hlt2 hg2 hs2 hen
      obtain ⟨rfl, hxs⟩ := keyOf_str hkx
      have hhas := Maps.has_true_of_atKey hat
      obtain ⟨p, hp⟩ : ∃ p, t.bk x.data.toList = some p := by
        cases hb : t.bk x.data.toList with
        | none => have := Hh.out.none_ _ hb; rw [hhas] at this; cases this
        | some p => exact ⟨p, rfl⟩
      obtain ⟨b, hatb, hb, hob⟩ := Hh.out.some_ _ p hp
      obtain rfl : ya = .lit (.int .u64 (b : Int)) := (hat .nil).symm.trans (hatb .nil)
      have hc : mkP c = .pointer (some ⟨b, 0, none⟩) := ptrElem_at hRv
      rw [hc] at hen ⊢
      have hgw : w.grownBy w2 none := hg.out.andThen hg2 (fun j e => .inl (by cases e; exact Nat.le_refl _))
      have f2b : w2.cell? ⟨g, 2, none⟩ = some (.map (some m)) := hg2.cell f2r (by simp; omega)
      have hblt := (Hh.out.bnd _ hob).2
      have c1 : w2.cell? ⟨b, 1, none⟩ = some (.int .i64 p.2) := by rw [World.cell?_of_block (a := ⟨b, 1, none⟩) (hgw.block b hblt (by simp)), cell_of_row _ b 1 _ _ _ hb]; rfl
      have hz : (zeroValue 47).run Try.prog w2 = .ok (.pointer none) w2 := by kernel_rfl
      obtain ⟨v, ps, hrun, hv⟩ := hrg2.owns.lookup (string_keyed Try.underlying9) Try.underlying44 hz (zd := .nil) (zp := []) rfl (keyOf_string_mk Try.underlying9 hos)
      have Hgw := Lib.hid hgw
      have Hrg2 := Lib.hid hrg2
      have Hp := Lib.hid hp
      cases hbo : t.bk o.data.toList with
      | none =>
        rw [Maps.atKey_of_not_has (Hh.out.none_ _ hbo)] at hv
        obtain rfl := ptrElem_nil hv
        have Hbo := Lib.hid hbo
        clear hv hbo hz hgw hrg2 hp hrg hat hatb hb hRv hkx hlx hhas hg2 hc f2r
        go_wp2
        go_quiet (fail)
        go_wp2
        go_roundw
        case rel => exact ⟨x, _, cnt2, rfl, hxs, ranges_drewN Hrg2.out _, ⟨Hgw.out.os, Hgw.out.tape, Hgw.out.output, Hgw.out.size, Hgw.out.block⟩, hC.out.take Hp.out (.inl Hbo.out), fun e => by rw [Hp.out] at e; cases e⟩
        case measure => show World.rangeLeft _ m w.heap.size < _; rw [hle]; exact (show World.rangeLeft w2 m w.heap.size < cnt from by rw [Hrg2.out.left_eq]; exact hlt2)
      | some po =>
        obtain ⟨bo, hato, hbb, hobo⟩ := Hh.out.some_ _ po hbo
        rw [hato] at hv
        obtain rfl := ptrElem_at hv
        have c1o : w2.cell? ⟨bo, 1, none⟩ = some (.int .i64 po.2) := by rw [World.cell?_of_block (a := ⟨bo, 1, none⟩) (Hgw.out.block bo (Hh.out.bnd _ hobo).2 (by simp)), cell_of_row _ bo 1 _ _ _ hbb]; rfl
        have Hbo := Lib.hid hbo
        clear hv hbo hz hgw hrg2 hp hrg hat hatb hb hRv hkx hlx hhas hg2 hc f2r hato hbb
        have hxl : x.toList = x.data.toList := ByteArray.toList_eq x
        have hol : o.toList = o.data.toList := ByteArray.toList_eq o
        have Hxl := Lib.hid hxl
        have Hol := Lib.hid hol
        clear hxl hol
        by_cases h1 : p.2 < po.2
        · have d1 : decide (p.2 < po.2) = true := decide_eq_true h1
          have h1' := Lib.hid h1
          clear h1
          go_wp2
          go_quiet (fail)
          go_wp2
          go_roundw
          case rel => exact ⟨x, _, cnt2, rfl, hxs, ranges_drewN Hrg2.out _, ⟨Hgw.out.os, Hgw.out.tape, Hgw.out.output, Hgw.out.size, Hgw.out.block⟩, hC.out.take Hp.out (.inr ⟨po, Hbo.out, .inl h1'.out⟩), fun e => by rw [Hp.out] at e; cases e⟩
          case measure => show World.rangeLeft _ m w.heap.size < _; rw [hle]; exact (show World.rangeLeft w2 m w.heap.size < cnt from by rw [Hrg2.out.left_eq]; exact hlt2)
        · have d1 : decide (p.2 < po.2) = false := decide_eq_false h1
          by_cases h2 : p.2 = po.2
          · have d2 : (p.2 == po.2) = true := by simpa using h2
            have h2' := Lib.hid h2
            have h1' := Lib.hid h1
            clear h1 h2
            cases hb3 : Op.bytesLess x.toList o.toList with
            | true =>
              have H3 := Lib.hid hb3
              go_wp2
              go_quiet (fail)
              go_wp2
              go_roundw
              case rel => exact ⟨x, _, cnt2, rfl, hxs, ranges_drewN Hrg2.out _, ⟨Hgw.out.os, Hgw.out.tape, Hgw.out.output, Hgw.out.size, Hgw.out.block⟩, hC.out.take Hp.out (.inr ⟨po, Hbo.out, .inr ⟨h2'.out, by rw [← Hxl.out, ← Hol.out]; exact H3.out⟩⟩), fun e => by rw [Hp.out] at e; cases e⟩
              case measure => show World.rangeLeft _ m w.heap.size < _; rw [hle]; exact (show World.rangeLeft w2 m w.heap.size < cnt from by rw [Hrg2.out.left_eq]; exact hlt2)
            | false =>
              have H3 := Lib.hid hb3
              go_wp2
              go_quiet (fail)
              go_wp2
              go_roundw
              case rel => exact ⟨o, _, cnt2, rfl, hos, ranges_drewN Hrg2.out _, ⟨Hgw.out.os, Hgw.out.tape, Hgw.out.output, Hgw.out.size, Hgw.out.block⟩, hC.out.keep Hp.out Hbo.out (fun ho => by rcases ho with ho | ⟨_, ho⟩; (have h9 := h1'.out; omega); rw [← Hxl.out, ← Hol.out, H3.out] at ho; cases ho), fun e => by rw [Hbo.out] at e; cases e⟩
              case measure => show World.rangeLeft _ m w.heap.size < _; rw [hle]; exact (show World.rangeLeft w2 m w.heap.size < cnt from by rw [Hrg2.out.left_eq]; exact hlt2)
          · have d2 : (p.2 == po.2) = false := by simpa using h2
            have h2' := Lib.hid h2
            have h1' := Lib.hid h1
            clear h1 h2
            go_wp2
            go_quiet (fail)
            go_wp2
            go_roundw
            case rel => exact ⟨o, _, cnt2, rfl, hos, ranges_drewN Hrg2.out _, ⟨Hgw.out.os, Hgw.out.tape, Hgw.out.output, Hgw.out.size, Hgw.out.block⟩, hC.out.keep Hp.out Hbo.out (fun ho => by rcases ho with ho | ⟨ho, _⟩; (have h9 := h1'.out; omega); exact h2'.out ho), fun e => by rw [Hbo.out] at e; cases e⟩
            case measure => show World.rangeLeft _ m w.heap.size < _; rw [hle]; exact (show World.rangeLeft w2 m w.heap.size < cnt from by rw [Hrg2.out.left_eq]; exact hlt2)
end Go.Proofs.Ytkbbelbcjokncaa
