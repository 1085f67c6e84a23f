/- The texts J11 of this work, merged by wip/merge.py. No conditions. -/
import Derived.Test.YtkbopeoaoakfnaaDoorQJG
import Derived.Deep.CutRange
namespace Go.Proofs.YtkbopeoaoakfnaaDoor
open Go.RowKit
section
variable {w0 w w' : World} {base g pb L m mb : Nat} {s : List UInt8} {st : PS} {x : List (List UInt8) × List JV}
/-- The variables of object: p's box, the object, the map's block, the map's variable. -/
structure OI (w0 : World) (g pb L m mb : Nat) (mk : List (List UInt8)) (x : List (List UInt8) × List JV) (w : World) : Prop where
  box : w.heap[pb]? = some (.cells #[.pointer (some ⟨g, 0, none⟩)] 77 (0, 0))
  mapv : w.heap[mb]? = some (.cells #[.map (some m)] 124 (0, 0))
  keys : KI w m mk
  var : ∃ v us, w.heap[L]? = some (.cells #[v] 73 (0, 0)) ∧ LV w (mb + 1) 75 2 v (mems x.1 us) us x.2
  len : x.1.length = x.2.length
  lim : w0.heap.size ≤ pb ∧ pb < L ∧ L < m ∧ m < mb ∧ g < w0.heap.size
theorem OI.turn {mk : List (List UInt8)} (h : OI w0 g pb L m mb mk x w) (ht : Turn g w w') : OI w0 g pb L m mb mk x w' := by
  obtain ⟨h1, hm, hk, ⟨v, us, h2, h3⟩, hl, l1, l2, l3, l4, l5⟩ := h
  refine ⟨(ht.block pb (lt_of_heap h1) (by omega)).trans h1, (ht.block mb (lt_of_heap hm) (by omega)).trans hm, hk.kept (row := some g) ⟨ht.os, ht.tape, ht.output, ht.size, fun k hk hn => ht.block k hk (fun e => hn (by rw [e]))⟩ (fun e => ?_), ⟨v, us, (ht.block L (lt_of_heap h2) (by omega)).trans h2, h3.turn ht (by omega)⟩, hl, l1, l2, l3, l4, l5⟩
  have := Option.some.inj e
  omega
theorem OI.put {mk mk' : List (List UInt8)} (h : OI w0 g pb L m mb mk x w) (hk : KI w' m mk') (hg : w.grownBy w' (some m)) : OI w0 g pb L m mb mk' x w' := by
  obtain ⟨h1, hm, _, ⟨v, us, h2, h3⟩, hl, l1, l2, l3, l4, l5⟩ := h
  have hb : ∀ k, k < w.heap.size → k ≠ m → w'.heap[k]? = w.heap[k]? := fun k h5 h6 => hg.block k h5 (fun e => h6 (Option.some.inj e))
  refine ⟨(hb pb (lt_of_heap h1) (by omega)).trans h1, (hb mb (lt_of_heap hm) (by omega)).trans hm, hk, ⟨v, us, (hb L (lt_of_heap h2) (by omega)).trans h2, h3.keep hg.size (fun k h5 h6 => hb k h6 (by omega))⟩, hl, l1, l2, l3, l4, l5⟩
theorem At.put_map {mk : List (List UInt8)} (h : At w0 base g s w st) (hk : KI w m mk) (hb : w0.heap.size ≤ m) (hg : w.grownBy w' (some m)) : At w0 base g s w' st := by
  obtain ⟨n, D, ⟨es, cl, hh, _⟩, _⟩ := hk
  exact h.write hb (fun c fz e => by rw [hh] at e; cases e) ⟨hg.os, hg.tape, hg.output⟩ hg.size (fun k h5 h6 => hg.block k h5 (fun e => h6 (Option.some.inj e)))
theorem minfo : (Tryd.prog.info? 75).map (fun i => (i.zero, i.size, i.bytes)) = some (some (.agg #[.string ⟨#[]⟩, .nilIface]), 2, 32) := by kernel_rfl
theorem built_member (k : ByteArray) {u : Value} (hu : u.cells = #[u]) : (Tryd.prog).built 75 [(0, .string k), (1, u)] = some #[.string k, u] := by
  have h0 : ∀ ps, (Tryd.prog).built 75 ps = Instr.fill ([(0, 1), (1, 1)].toArray[·]?) #[.string ⟨#[]⟩, .nilIface] ps := fun ps => by kernel_rfl
  rw [h0]
  have hs : (Value.string k).cells = #[.string k] := rfl
  simp [Instr.fill, hs, hu]
theorem wpList_build_to {P : Program} {ops : Array Oper} {rest : List Oper} {o : Oper} {a : Act} {w : World} {Q : Exit → Act → World → Prop} (hg : o.guard = none) (t : TypeId) (parts : Array (Nat × Operand)) (ho : o.op = .build t parts)
    (vs : List (Nat × Value)) (hvs : parts.toList.map (fun p => (p.1, a.eval p.2)) = vs) (cells : Array Value) (hb : P.built t vs = some cells)
    (h : wpList P ops Q rest (a.put o.dst (.agg cells)) w) : wpList P ops Q (o :: rest) a w := by
  have hv : (parts.map fun (i, x) => (i, a.eval x)).toList = vs := by rw [← hvs]; simp
  refine wpList_build hg t parts ho (by rw [hv, hb]; rfl) ?_
  rw [hv, hb]
  exact h
theorem text_len (s : List UInt8) : ∀ (n k : Nat) (out y : List UInt8) (k' : Nat), k ≤ s.length → textP s n k out = (some y, k') → y.length + 4 * k ≤ out.length + 4 * k' ∧ k' ≤ s.length
  | 0, k, out, y, k', _, h => by cases h
  | n + 1, k, out, y, k', hk, h => by
    unfold textP at h
    split at h
    · cases h
    · rename_i c hc
      have hkl : k < s.length := by
        rcases Nat.lt_or_ge k s.length with h' | h'
        · exact h'
        · rw [List.getElem?_eq_none h'] at hc; cases hc
      split at h
      · simp only [Prod.mk.injEq, Option.some.injEq] at h
        obtain ⟨rfl, rfl⟩ := h
        omega
      split at h
      · cases h
      split at h
      · split at h
        · cases h
        · rename_i xx k2 he
          have h1 := escP_x he
          have h2 := escP_le he
          rcases Nat.lt_or_ge s.length k2 with h4 | h4
          · cases n with
            | zero => cases h
            | succ n =>
              unfold textP at h
              rw [List.getElem?_eq_none (by omega)] at h
              cases h
          · have h3 := text_len s n k2 _ y k' h4 h
            rw [List.length_append] at h3
            omega
      split at h
      · cases h
      · have h4 := runeW_le (s.drop k)
        rw [List.length_drop] at h4
        have h3 := text_len s n _ _ y k' (by omega) h
        rw [List.length_append, List.length_take, List.length_drop] at h3
        omega
theorem textV_len (h : At w0 base g s w st) : (st.textV s).length ≤ 1000000 := by
  unfold PS.textV
  split
  · rename_i h0
    cases ht : (st.textOf s).1 with
    | none => simp
    | some y =>
      have hk : (st.must s 34).at_ ≤ s.length := by
        have hm := PS.must_ok h0
        rw [hm.1]
        have h2 := hm.2.2
        unfold PS.sees at h2
        rcases Nat.lt_or_ge st.at_ s.length with h' | h'
        · exact h'
        · rw [List.getElem?_eq_none h'] at h2; cases h2
      have h1 := text_len s (s.length + 1) _ [] y (st.textOf s).2 hk (by rw [← ht]; rfl)
      obtain ⟨h1, h5⟩ := h1
      have := h.len8
      simp at h1
      simp
      omega
  · simp
set_option maxRecDepth 100000 in
set_option maxHeartbeats 800000 in
theorem obj1_any {n : Nat} (hV : VAL s n) (h : At w0 base g s w st) (hI : OI w0 g pb L m mb x.1 x w) (hn : s.length - st.at_ < n) (hd0 : 0 ≤ st.depth) (hd1 : st.depth ≤ 16) (hln : x.2.length ≤ 8192) :
    Calls Tryd.prog 80 #[.pointer (some ⟨pb, 0, none⟩), .pointer (some ⟨mb, 0, none⟩), .pointer (some ⟨L, 0, none⟩)] w fun e w' => e = .returned (.tuple #[]) ∧ At w0 base g s w' (objOne s (valP s n) x st).2 ∧ OI w0 g pb L m mb (objOne s (valP s n) x st).1.1 (objOne s (valP s n) x st).1 w' := by
  obtain ⟨hbox, hmapv, hkeys, ⟨v, us, hvar, hLV⟩, hxl, l1, l2, l3, l4, l5⟩ := id hI
  have KL := Lib.hid (textV_len h)
  have TXT := Lib.hid (lift_at h (text_at h.self))
  have HVL := Lib.hid hV
  have HN := Lib.hid (show s.length - st.at_ < n ∧ x.2.length ≤ 8192 from ⟨hn, hln⟩)
  have HD := Lib.hid (show 0 ≤ st.depth ∧ st.depth ≤ 16 from ⟨hd0, hd1⟩)
  have HI0 := Lib.hid hI
  have hcell : ∀ w' mk, OI w0 g pb L m mb mk x w' → w'.cell? ⟨pb, 0, none⟩ = some (.pointer (some ⟨g, 0, none⟩)) ∧ w'.cell? ⟨mb, 0, none⟩ = some (.map (some m)) := fun w' mk hi => ⟨cell_of_row w' pb 0 _ _ _ hi.box, cell_of_row w' mb 0 _ _ _ hi.mapv⟩
  have HCELL := Lib.hid hcell
  obtain ⟨q0, q1⟩ := hcell w _ hI
  obtain ⟨c0, c1, c2, fz⟩ := h.cells
  obtain ⟨key, hkey⟩ : ∃ key, key = st.textV s := ⟨_, rfl⟩
  rw [← hkey] at TXT KL
  have HKEY := Lib.hid hkey
  clear hV hn hd0 hd1 hln hcell hbox hmapv hkeys hvar hLV hI hkey
  go_enter Tryd.func80, Tryd.ntmps80
  go_upto_region 2 with (go_at_call 60; go_must (refine TXT.out.mono ?_; rintro e w1 ⟨rfl, h1, t1⟩; have i1 := HI0.out.turn t1; obtain ⟨p0, p1⟩ := HCELL.out w1 _ i1; obtain ⟨fp, c3, hfp⟩ := h1.fault; have hlk := i1.keys.look key KL.out))
  go_cut [20] from 5 (fun v w' => v = .bool (decide ((st.text s).fault = none ∧ key ∈ x.1)) ∧ w' = w1)
  case first =>
    go_wp2_with fail
    · rename_i hq
      go_meet
      case rel => exact ⟨by simp [hq], rfl⟩
    · rename_i hq
      go_meet
      case rel => exact ⟨by simp [hq], rfl⟩
  case rest =>
    obtain ⟨rfl, rfl⟩ := hcut
    go_upto_if 20 with fail
    go_cut [] from 5 (fun w' => At w0 base g s w' (st.key s x.1) ∧ OI w0 g pb L m mb x.1 x w')
    case first =>
      by_cases hdup : (st.text s).fault = none ∧ key ∈ x.1
      · have hb : decide ((st.text s).fault = none ∧ key ∈ x.1) = true := by simp [hdup]
        have hk : st.key s x.1 = (st.text s).fail st.at_ 2 := by unfold PS.key; rw [← HKEY.out, if_pos hdup]
        rw [hb]
        go_wp2_with (go_at_call 33; go_must (refine (lift_at h1 (fail_at h1.self _ _)).mono ?_; rintro e w2 ⟨rfl, h2, t2⟩; have i2 := i1.turn t2))
        go_meet
        case rel => exact ⟨h2.cast hk.symm, i2⟩
      · have hb : decide ((st.text s).fault = none ∧ key ∈ x.1) = false := by simpa using hdup
        have hk : st.key s x.1 = st.text s := by unfold PS.key; rw [← HKEY.out, if_neg hdup]
        rw [hb]
        go_wp2_with fail
        go_meet
        case rel => exact ⟨h1.cast hk.symm, i1⟩
    case rest =>
      obtain ⟨h3, i3⟩ := hcut
      clear c0 c1 c2 fz c3 hfp hlk p0 p1 h1 t1 i1 q0 q1
      obtain ⟨z0, z1⟩ := HCELL.out _ _ i3
      obtain ⟨wm, hput, hkm, hgm⟩ := i3.keys.put (by have := HN.out; omega) key KL.out
      have h4 := h3.put_map i3.keys (by omega) hgm
      have i4 := i3.put hkm hgm
      obtain ⟨z2, z3⟩ := HCELL.out _ _ i4
      clear hkm hgm h3 i3
      go_upto_region 8 with (first
        | (go_at_call 31; have hx_ := h6; go_must (refine (lift_at h6 (blanks_at h6.self)).mono ?_; rintro e w7 ⟨rfl, h7, t7⟩; have i7 := i6.turn t7; obtain ⟨z8, z9⟩ := HCELL.out _ _ i7))
        | (go_at_call 31; go_must (refine (lift_at h4 (blanks_at h4.self)).mono ?_; rintro e w5 ⟨rfl, h5, t5⟩; have i5 := i4.turn t5; obtain ⟨z4, z5⟩ := HCELL.out _ _ i5))
        | (go_at_call 81; go_must (refine (lift_at h5 (must_lit 58 58 rfl h5.self)).mono ?_; rintro e w6 ⟨rfl, h6, t6⟩; have i6 := i5.turn t6; obtain ⟨z6, z7⟩ := HCELL.out _ _ i6)))
      have h8 : At w0 base g s w7 ((st.key s x.1).colon s) := h7
      clear h4 h5 h6 h7 i4 i5 i6 t5 t6 t7 z0 z1 z2 z3 z4 z5 z6 z7 z8 z9 hput
      obtain ⟨hbox, hmapv, hkeys, ⟨v, us, hvar, hLV⟩, _, _⟩ := i7
      obtain ⟨i0, hi0, hz0, hz1, hz2⟩ := info_parts minfo
      have hV := HVL.out
      obtain ⟨P, hP⟩ : ∃ P, P = (st.key s x.1).colon s := ⟨_, rfl⟩
      have hPa : st.at_ ≤ P.at_ := by rw [hP]; exact Nat.le_trans (PS.key_le st s x.1) (PS.colon_le _ _)
      have hPd : P.depth = st.depth := by rw [hP, PS.colon_depth, PS.key_depth]
      rw [← hP] at h8
      have E0 : Hid (∀ w', Turn g w7 w' → w'.cell? ⟨L, 0, none⟩ = some v) := fun w' ht => cell_of_row w' L 0 _ _ _ ((ht.block L (lt_of_heap hvar) (by omega)).trans hvar)
      have E1 : Hid (∀ w', Turn g w7 w' → w'.cell? ⟨pb, 0, none⟩ = some (.pointer (some ⟨g, 0, none⟩))) := fun w' ht => cell_of_row w' pb 0 _ _ _ ((ht.block pb (lt_of_heap hbox) (by omega)).trans hbox)
      obtain ⟨A, c, rfl, _, _⟩ := hLV.rd
      have HV := Lib.hid (show ∀ w1, Below w7.heap.size w7 w1 → _ from fun w1 hb => hV _ _ _ _ (h8.below hb).self (fun _ => ⟨by have := HN.out; omega, by have := HD.out; omega, by have := HD.out; omega⟩) (by have := HN.out; omega))
      have H8 := Lib.hid h8
      have HLV := Lib.hid hLV
      have HBX := Lib.hid hbox
      have HVR := Lib.hid hvar
      have HMV := Lib.hid hmapv
      have HKS := Lib.hid hkeys
      have HP := Lib.hid hP
      clear hV h8 hbox hvar hLV hmapv hkeys hP hPa hPd
      go_wp2
      refine AnyCZ.start [7] (fun w' => w'.cell? ⟨L, 0, none⟩ = some (.slice A x.2.length c) ∧ w'.cell? ⟨pb, 0, none⟩ = some (.pointer (some ⟨g, 0, none⟩))) (by kernel_rfl) rfl ?_
      intro w1 hb1
      have B1 := Lib.hid (Turn.of_below (g := g) hb1)
      have BB := Lib.hid hb1
      clear hb1
      apply AnyCZ.take (i := 0) rfl (by kernel_rfl) (by kernel_rfl) rfl
      · intro w' hC K hK
        have cc := hC.1
        go_wp2
        exact hK
      · rfl
      apply AnyCZ.take (i := 1) rfl (by kernel_rfl) (by kernel_rfl) rfl
      · intro w' hC K hK
        go_wp2
        exact hK
      · rfl
      apply AnyCZ.take (i := 2) rfl (by kernel_rfl) (by kernel_rfl) rfl
      · intro w' hC K hK
        have cc := hC.2
        go_wp2
        exact hK
      · rfl
      apply AnyCZ.solo (i := 3) rfl (by kernel_rfl) ⟨E0.out _ B1.out, E1.out _ B1.out⟩
      go_wp2_with (go_at_call 32; go_must (refine (HV.out w1 BB.out).mono ?_; rintro e w2 ⟨u, rfl, h2, hu⟩))
      refine ⟨rfl, ?_⟩
      have T2 := Lib.hid (B1.out.trans h2.turn)
      have hu1 := hu.one
      have HU := Lib.hid hu
      have H2 := Lib.hid h2
      clear hu h2
      apply AnyCZ.take (i := 4) rfl (by kernel_rfl) (by kernel_rfl) rfl
      · intro w' hC K hK
        refine wpList_build_to rfl 75 _ rfl [(0, .string ⟨key.toArray⟩), (1, u)] rfl _ (built_member ⟨key.toArray⟩ hu1.1) ?_
        go_wp2
        exact hK
      · rfl
      apply AnyCZ.solo (i := 5) rfl (by kernel_rfl) ⟨E0.out _ T2.out, E1.out _ T2.out⟩
      refine slice1 rfl rfl rfl (s := 2) rfl Tryd.underlying73 hi0 hz0 hz1 (by decide) ?_
      go_wp2
      refine ⟨rfl, ?_⟩
      obtain ⟨w3, hw3⟩ : ∃ w3, w3 = w2.alloc (.cells #[.string ⟨key.toArray⟩, u] 75) := ⟨_, rfl⟩
      have hb3 : Below w2.heap.size w2 w3 := by rw [hw3]; exact (Below.refl _ _).alloc (Nat.le_refl _) _
      have hblk : w3.heap[w2.heap.size]? = some (.cells #[.string ⟨key.toArray⟩, u] 75 (0, 0)) := by rw [hw3]; exact heap_alloc_new _ _
      rw [← hw3]
      have T3 := Lib.hid (T2.out.trans (Turn.of_below hb3))
      have B3 := Lib.hid hb3
      have HLV2 := Lib.hid (HLV.out.turn T2.out (by omega))
      have HLV3 := Lib.hid (HLV2.out.below hb3)
      clear hw3 hb3
      apply AnyCZ.solo (i := 6) rfl (by kernel_rfl) ⟨E0.out _ T3.out, E1.out _ T3.out⟩
      refine app1 rfl rfl rfl rfl Tryd.underlying73 hi0 hz0 hz1 hz2 (by rfl) (by decide) HLV3.out.own hblk rfl (by simp [hu1.2]; rfl) (by have := HN.out; omega) (by have := HN.out; omega) (by have := B3.out.size; have := lt_of_heap HMV.out; have := T3.out.size; omega) ?_
      intro v' w4 ho4 hg4 hb4
      have hM := HLV2.out.more (m := w1.heap.size) (ys := #[.string ⟨key.toArray⟩, u].toList) (fun k hk => by have h1_ := HLV.out.blk k hk; have h2_ := B1.out.size; omega) HU.out B3.out rfl ho4 hg4 hb4 (by have := lt_of_heap HMV.out; have := B1.out.size; omega)
      go_wp2
      refine ⟨rfl, ?_⟩
      have hrl : ∀ k, (Value.slice A x.2.length c).ownBlock = some k → mb + 1 ≤ k := fun k e => (World.ownsRow.lt HLV.out.own _ e).1
      have hL3 : w3.heap[L]? = some (.cells #[.slice A x.2.length c] 73 (0, 0)) := (T3.out.block L (lt_of_heap HVR.out) (by omega)).trans HVR.out
      have hL4 : w4.heap[L]? = some (.cells #[.slice A x.2.length c] 73 (0, 0)) := own_other hL3 hg4 (fun e => by have := hrl _ e; omega)
      have hp3 : w3.heap[pb]? = some (.cells #[.pointer (some ⟨g, 0, none⟩)] 77 (0, 0)) := (T3.out.block pb (lt_of_heap HBX.out) (by omega)).trans HBX.out
      have hp4 := own_other hp3 hg4 (fun e => by have := hrl _ e; omega)
      have hm3 : w3.heap[mb]? = some (.cells #[.map (some m)] 124 (0, 0)) := (T3.out.block mb (lt_of_heap HMV.out) (by omega)).trans HMV.out
      have hm4 := own_other hm3 hg4 (fun e => by have := hrl _ e; omega)
      have hk3 : KI w3 m (x.1 ++ [key]) := HKS.out.kept (row := some g) ⟨T3.out.os, T3.out.tape, T3.out.output, T3.out.size, fun k hk hn => T3.out.block k hk (fun e => hn (by rw [e]))⟩ (fun e => by have := Option.some.inj e; omega)
      have hk4 : KI w4 m (x.1 ++ [key]) := hk3.kept hg4 (fun e => by have := hrl _ e.symm; omega)
      have c4 := cell_of_row w4 L 0 _ _ _ hL4
      have f4 := frozen_row hL4 0
      have HM := Lib.hid hM
      have HL4 := Lib.hid hL4
      have HP4 := Lib.hid hp4
      have HM4 := Lib.hid hm4
      have HK4 := Lib.hid hk4
      have HG4 := Lib.hid hg4
      obtain ⟨A', c', rfl, _, _⟩ := hM.rd
      clear hM hL4 hp4 hg4 hL3 hp3 hm3 hm4 hk3 hk4
      apply AnyCZ.soloW (i := 7) rfl (by kernel_rfl) ⟨c4, cell_of_row w4 pb 0 _ _ _ HP4.out⟩
      go_wp2
      refine ⟨rfl, ?_⟩
      refine AnyW.done (by kernel_rfl) ?_
      first
        | go_end0
        | (refine bodyPost_ret (results_none rfl _ _ _) rfl ?_)
      refine ⟨rfl, ?_, ?_⟩
      · have a3 := (H8.out.step H2.out.ps T2.out).below B3.out
        have a4 := a3.grown HG4.out (fun k hk => by
          have h_ := row_kind HLV3.out.own (by decide) k hk
          exact ⟨by omega, h_.2⟩)
        have a5 := a4.set1 (x := .slice A' (x.2.length + 1) c') HL4.out (by decide) (by omega)
        unfold objOne
        rw [← HP.out]
        exact a5
      · have h5 := HM.out.setCell (p := ⟨L, 0, none⟩) (by show L < mb + 1; omega) (.slice A' (x.2.length + 1) c')
        rw [show (x.2 ++ [(valP s n P).1]).length = x.2.length + 1 by simp] at h5
        have hml : mems (x.1 ++ [key]) (us ++ [u]) = mems x.1 us ++ #[.string ⟨key.toArray⟩, u].toList := mems_more (by rw [HLV.out.len]; exact hxl) key u
        unfold objOne
        rw [← HP.out, ← HKEY.out]
        refine ⟨(heap_setCell_other _ _ _ _ (show pb ≠ L by omega)).trans HP4.out, (heap_setCell_other _ _ _ _ (show mb ≠ L by omega)).trans HM4.out, HK4.out.kept (row := some L) ⟨rfl, rfl, rfl, by simp [World.setCell], fun k _ hn => Below.heap_setCell _ _ _ _ (fun e => hn (by rw [e]))⟩ (fun e => by have := Option.some.inj e; omega), ⟨_, us ++ [u], heap_setCell_same _ _ _ _ _ _ HL4.out, ?_⟩, by simp [hxl], l1, l2, l3, l4, l5⟩
        rw [hml]
        exact h5
theorem four_allocs (w : World) (a b c d : Obj) : Below w.heap.size w ((((w.alloc a).alloc b).alloc c).alloc d) ∧ ((((w.alloc a).alloc b).alloc c).alloc d).heap[w.heap.size]? = some a ∧ ((((w.alloc a).alloc b).alloc c).alloc d).heap[w.heap.size + 1]? = some b ∧ ((((w.alloc a).alloc b).alloc c).alloc d).heap[w.heap.size + 1 + 1]? = some c ∧ ((((w.alloc a).alloc b).alloc c).alloc d).heap[w.heap.size + 1 + 1 + 1]? = some d := by
  have ha := heap_alloc_new w a
  have hb := heap_alloc_new (w.alloc a) b
  have hc := heap_alloc_new ((w.alloc a).alloc b) c
  have hd := heap_alloc_new (((w.alloc a).alloc b).alloc c) d
  have s1 : (w.alloc a).heap.size = w.heap.size + 1 := by simp
  have s2 : ((w.alloc a).alloc b).heap.size = w.heap.size + 1 + 1 := by simp
  have s3 : (((w.alloc a).alloc b).alloc c).heap.size = w.heap.size + 1 + 1 + 1 := by simp
  rw [s1] at hb
  rw [s2] at hc
  rw [s3] at hd
  have b1 : Below w.heap.size w (w.alloc a) := (Below.refl _ _).alloc (Nat.le_refl _) _
  have b2 : Below (w.alloc a).heap.size (w.alloc a) ((w.alloc a).alloc b) := (Below.refl _ _).alloc (Nat.le_refl _) _
  have b3 : Below ((w.alloc a).alloc b).heap.size ((w.alloc a).alloc b) (((w.alloc a).alloc b).alloc c) := (Below.refl _ _).alloc (Nat.le_refl _) _
  have b4 : Below (((w.alloc a).alloc b).alloc c).heap.size (((w.alloc a).alloc b).alloc c) ((((w.alloc a).alloc b).alloc c).alloc d) := (Below.refl _ _).alloc (Nat.le_refl _) _
  refine ⟨b1.trans ((b2.mono (by omega)).trans ((b3.mono (by omega)).trans (b4.mono (by omega)))), ?_, ?_, ?_, hd⟩
  · exact heap_below (heap_below (heap_below ha b2) b3) b4
  · exact heap_below (heap_below hb b3) b4
  · exact heap_below hc b4
set_option maxRecDepth 100000 in
set_option maxHeartbeats 800000 in
theorem object_at {n : Nat} (hV : VAL s n) (h : At w base g s w st) (hlt : st.at_ < s.length) (hn : s.length - st.at_ ≤ n) (hd0 : 0 ≤ st.depth) (hd1 : st.depth ≤ 16) :
    Calls Tryd.prog 58 #[.pointer (some ⟨g, 0, none⟩)] w fun e w' => ∃ v, e = .returned v ∧ At w base g s w' (memP s 125 (objOne s (valP s n)) n ([], []) st).2 ∧ IsV w' (fun k => w.heap.size ≤ k ∧ k < w'.heap.size) v (.obj (memP s 125 (objOne s (valP s n)) n ([], []) st).1.1 (memP s 125 (objOne s (valP s n)) n ([], []) st).1.2) := by
  have hV2 := Lib.hid hV
  have H := Lib.hid h
  have hall : ∀ w2, Below w.heap.size w w2 → w2.heap[w.heap.size]? = some (.cells #[.pointer (some ⟨g, 0, none⟩)] 77 (0, 0)) → w2.heap[w.heap.size + 1]? = some (.cells #[.slice none 0 0] 73 (0, 0)) → KI w2 (w.heap.size + 1 + 1) [] → w2.heap[w.heap.size + 1 + 1 + 1]? = some (.cells #[.map (some (w.heap.size + 1 + 1))] 124 (0, 0)) →
      Calls Tryd.prog 79 #[.pointer (some ⟨g, 0, none⟩), .int .u8 125, .func (.func 80) #[] #[.pointer (some ⟨w.heap.size, 0, none⟩), .pointer (some ⟨w.heap.size + 1 + 1 + 1, 0, none⟩), .pointer (some ⟨w.heap.size + 1, 0, none⟩)]] w2
      (fun en w' => en = .returned (.tuple #[]) ∧ At w base g s w' (memP s 125 (objOne s (valP s n)) n ([], []) st).2 ∧ OI w g w.heap.size (w.heap.size + 1) (w.heap.size + 1 + 1) (w.heap.size + 1 + 1 + 1) (memP s 125 (objOne s (valP s n)) n ([], []) st).1.1 (memP s 125 (objOne s (valP s n)) n ([], []) st).1 w') := by
    intro w2 hb2 hp hL hk hm
    refine members_obj 125 (objOne s (valP s n)) (fun x w' => OI w g w.heap.size (w.heap.size + 1) (w.heap.size + 1 + 1) (w.heap.size + 1 + 1 + 1) x.1 x w') _ ([], []) n n (fun x => x.2.length) rfl (fun x st => by simp [objOne]) (fun x w1 w2 hI ht => hI.turn ht) (fun x st => Nat.le_trans (Nat.le_trans (PS.key_le st s x.1) (PS.colon_le _ _)) (valP_le s n _)) (fun x st => by dsimp only [objOne]; rw [valP_depth, PS.colon_depth, PS.key_depth])
      (fun x w1 st1 hA hI hf hlx hN hq0 hq1 => obj1_any hV2.out hA hI hN hq0 hq1 (by have := hA.ps.len; have := hA.len8; omega)) (H.out.below hb2) ⟨hp, hm, hk, ⟨_, [], hL, LV.nil _ _ _ _⟩, rfl, Nat.le_refl _, by omega, by omega, by omega, H.out.glt⟩ hlt hn (Nat.le_refl _) hd0 hd1 125 rfl
  have HALL := Lib.hid hall
  clear hV hV2 h hall hlt hn hd0 hd1
  have hmm := fun w => run_makeMap (P := Tryd.prog) 124 w
  go_enter Tryd.func58, Tryd.ntmps58
  obtain ⟨wb, hwp, hwl, hwm, hwv⟩ := four_allocs w (.cells #[.pointer (some ⟨g, 0, none⟩)] 77) (.cells #[.slice none 0 0] 73) (.map #[] 0) (.cells #[.map (some (w.heap.size + 1 + 1))] 124)
  have hki : KI ((((w.alloc (.cells #[.pointer (some ⟨g, 0, none⟩)] 77)).alloc (.cells #[.slice none 0 0] 73)).alloc (.map #[] 0)).alloc (.cells #[.map (some (w.heap.size + 1 + 1))] 124)) (w.heap.size + 1 + 1) [] := by
    have h1 := KI.made ((w.alloc (.cells #[.pointer (some ⟨g, 0, none⟩)] 77)).alloc (.cells #[.slice none 0 0] 73))
    rw [show ((w.alloc (.cells #[.pointer (some ⟨g, 0, none⟩)] 77)).alloc (.cells #[.slice none 0 0] 73)).heap.size = w.heap.size + 1 + 1 by simp] at h1
    exact h1.kept (row := none) (World.grownBy_alloc _ _ none) (by simp)
  have HM := Lib.hid (HALL.out _ wb hwp hwl hki hwv)
  clear wb hwp hwl hwm hwv hki
  go_wp2_with (go_at_call 79; go_must (refine HM.out.mono ?_; rintro en w3 ⟨rfl, h3, i3⟩; obtain ⟨_, _, _, ⟨v, us, hvr, hlv⟩, hxl, _⟩ := i3; obtain ⟨A, c, rfl, _, _⟩ := hlv.rd; have c3 := cell_of_row w3 (w.heap.size + 1) 0 _ _ _ hvr; have HLV3 := Lib.hid hlv; clear hlv hvr))
  go_ret
  exact ⟨_, rfl, h3, (HLV3.out.obj hxl).keep (fun k _ => rfl) (fun k hF => ⟨by omega, hF.2⟩)⟩
end
end Go.Proofs.YtkbopeoaoakfnaaDoor
