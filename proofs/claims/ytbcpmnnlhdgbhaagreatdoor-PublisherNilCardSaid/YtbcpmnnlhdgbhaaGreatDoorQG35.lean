/- The texts Y9 of this work, merged by wip/merge.py. No conditions. -/
import Derived.Test.YtbcpmnnlhdgbhaaGreatDoorQG34
namespace Go.Proofs.YtbcpmnnlhdgbhaaGreatDoor
open Go.RowKit
def FramePost (r : Option (List UInt8)) (w : World) (e : Ending) (w' : World) : Prop :=
  Below w.heap.size w w' ∧ ((r = none ∧ e = .returned (.tuple #[.slice none 0 0, .int .i64 0, .int .i64 0])) ∨ ∃ rec v, r = some rec ∧ e = .returned (.tuple #[v, .int .i64 (secsN rec.length : Nat), .int .i64 0]) ∧ Own8 w' w.heap.size v rec ∧ rec.length ≤ 65536)
theorem Equal_any (A A2 : Option Addr) (n n2 c c2 B B2 : Nat) (l l2 : List UInt8) (w : World) (hr : Reads w B 1 A n (bvs l)) (hr2 : Reads w B2 1 A2 n2 (bvs l2)) :
    Calls Tryz.prog 146 #[.slice A n c, .slice A2 n2 c2] w fun e w' => e = .returned (.bool (decide (l = l2))) ∧ w' = w := by
  have h1 := fun c => run_str8 hr c
  have h2 := fun c => run_str8 hr2 c
  go_enter Tryz.func146, Tryz.ntmps146
  go_wp2
  go_ret
  refine ⟨?_, rfl⟩
  have e : (l == l2) = decide (l = l2) := by rw [Bool.eq_iff_iff]; simp
  exact (show Ending.returned (Value.bool (l == l2)) = _ from by rw [e])
theorem read_none {w : World} {base gd gl : Nat} {own od : Nat → Prop} {secs : List (List UInt8)} {full : Bool} {f : Int} {S P rv : Value} {p : Int} {recs : List (List UInt8)} {vs : List Value} (h : LGx w base own od gd gl (dst secs full f) S P p rv recs vs) (at_ n m : Nat) (hn : 20 ≤ n) (hn2 : n ≤ 100000) (hm : (n + 62) / 63 ≤ m) (hat : at_ + m ≤ secs.length) (hr : readF secs n m at_ 1 [] = none) :
    Calls Tryz.prog 145 #[.pointer (some ⟨gl, 0, none⟩), .int .i64 (at_ : Int), .int .i64 (n : Int)] w fun e w' => e = .returned (.tuple #[.slice none 0 0, .int .i64 0]) ∧ Below w.heap.size w w' := by
  refine (read_any h at_ n m hn hn2 hm hat).mono ?_
  rintro e w' ⟨hb, ⟨_, he⟩ | ⟨l, A, c, hl, _⟩⟩
  · exact ⟨he, hb⟩
  · rw [hr] at hl; cases hl
theorem read_some {w : World} {base gd gl : Nat} {own od : Nat → Prop} {secs : List (List UInt8)} {full : Bool} {f : Int} {S P rv : Value} {p : Int} {recs : List (List UInt8)} {vs : List Value} (h : LGx w base own od gd gl (dst secs full f) S P p rv recs vs) (at_ n m : Nat) (hn : 20 ≤ n) (hn2 : n ≤ 100000) (hm : (n + 62) / 63 ≤ m) (hat : at_ + m ≤ secs.length) (l : List UInt8) (hr : readF secs n m at_ 1 [] = some l) :
    Calls Tryz.prog 145 #[.pointer (some ⟨gl, 0, none⟩), .int .i64 (at_ : Int), .int .i64 (n : Int)] w fun e w' => ∃ g c, e = .returned (.tuple #[.slice (some ⟨g, 0, none⟩) n c, .int .i64 0]) ∧ l.length = n ∧ n ≤ c ∧ Reads w' w'.heap.size 1 (some ⟨g, 0, none⟩) n (bvs l) ∧ w.heap.size ≤ g ∧ Below w.heap.size w w' := by
  refine (read_any h at_ n m hn hn2 hm hat).mono ?_
  rintro e w' ⟨hb, ⟨hl, _⟩ | ⟨l', A, c, hl, hlen, he, hc, hrd, g, rfl, hg⟩⟩
  · rw [hr] at hl; cases hl
  · rw [hr] at hl; cases hl
    exact ⟨g, c, he, hlen, hc, hrd, hg, hb⟩
theorem slK20 (g N c : Nat) (w : World) : (Instr.slice 96 (.slice (some ⟨g, 0, none⟩) (20 + N) c) (some (.int .i64 20)) none none).run Tryz.prog w = .ok (.slice (if c = 20 then some ⟨g, 0, none⟩ else some ⟨g, 20, none⟩) N (c - 20)) w := by
  have h1 := slK8 (A := some ⟨g, 0, none⟩) (c := c) (n := 20 + N) (k := 20) (by omega) w
  rw [Nat.add_sub_cancel_left] at h1
  have e : Option.map (fun x : Addr => x.add (20 * 1)) (some ⟨g, 0, none⟩) = some ⟨g, 20, none⟩ := rfl
  rw [e] at h1
  exact h1
theorem sl4_20 (g N c : Nat) (hc : 20 + N ≤ c) (w : World) : (Instr.slice 96 (.slice (some ⟨g, 0, none⟩) (20 + N) c) (some (.int .i64 4)) (some (.int .i64 20)) none).run Tryz.prog w = .ok (.slice (some ⟨g, 4, none⟩) 16 (c - 4)) w := by
  have h1 := run_slice_lh (P := Tryz.prog) w 96 (some ⟨g, 0, none⟩) (20 + N) c (by kernel_rfl) .i64 .i64 4 20 (by omega) (by omega) (by omega)
  have hs : (sizeOf (Tryz.prog.elem 96)).run Tryz.prog w = .ok 1 w := by kernel_rfl
  rw [h1, hs, Result.andThen_ok]
  unfold sliced
  rw [if_neg (by simp; omega)]
  rfl
set_option maxRecDepth 100000 in
set_option maxHeartbeats 4000000 in
theorem frame_any {w : World} {base gd gl : Nat} {own od : Nat → Prop} {secs : List (List UInt8)} {full : Bool} {f : Int} {S P rv : Value} {p : Int} {recs : List (List UInt8)} {vs : List Value} (h : LGx w base own od gd gl (dst secs full f) S P p rv recs vs) (K : List Int) (at_ number : Nat) (hnum : number < 4294967296) (hkt : KT w K) (hat : at_ ≤ 65536) :
    Calls Tryz.prog 115 #[.pointer (some ⟨gl, 0, none⟩), .int .i64 (at_ : Int), .int .u64 (number : Int)] w (FramePost (frameF K secs at_ number) w) := by
  have hmx : secs.length ≤ 65536 := h.dsk.ok.max
  obtain ⟨ar, har⟩ : ∃ ar, ar = secs.length / 2 := ⟨_, rfl⟩
  have HAR := Lib.hid har
  have HX := Lib.hid h
  have HK := Lib.hid hkt
  have HMX := Lib.hid hmx
  have HNUM := Lib.hid hnum
  have ha0 : (0 : Int) ≤ (at_ : Int) := by omega
  have ha1 : (at_ : Int) ≤ 65536 := by omega
  have hEQ := fun (w : World) (A : Option Addr) (n c : Nat) => Lib.run_eql_slice_nil (P := Tryz.prog) w 96 5 A n c 0 0 Tryz.underlying96
  by_cases c1 : ar ≤ at_
  · have hd : decide (ar ≤ at_) = true := by simp; omega
    have hF : Hid (frameF K secs at_ number = none) := by show _ = _; rw [har] at c1; exact frameF_no (.inl c1)
    clear h hkt har hmx c1 hnum
    go_enter Tryz.func115, Tryz.ntmps115
    go_wp2_with (go_at_call 89; go_must (refine (area_any HX.out).mono ?_; rintro e w_ ⟨rfl, hw_⟩; have hw_ := hw_.symm; subst hw_; rw [show (dst secs full f).secs.length / 2 = ar from HAR.out.symm]))
    refine bodyPost_ret (v := .tuple #[.slice none 0 0, .int .i64 0, .int .i64 0]) (by simp [results, Tryz.results115, go_sem]) rfl ⟨Below.refl _ _, .inl ⟨hF.out, rfl⟩⟩
  · have hd : decide (ar ≤ at_) = false := by simp; omega
    have hin : at_ + 1 ≤ secs.length := by omega
    have C1 := Lib.hid c1
    cases hr1 : readF secs 20 1 at_ 1 [] with
    | none =>
      have hF : Hid (frameF K secs at_ number = none) := by show _ = _; unfold frameF; rw [← har, if_neg c1, hr1]; rfl
      have HR1 := Lib.hid hr1
      have HIN := Lib.hid hin
      clear h hkt har hmx c1 hnum hr1 hin
      go_enter Tryz.func115, Tryz.ntmps115
      go_wp2_with (first
        | (go_at_call 89; go_must (refine (area_any HX.out).mono ?_; rintro e w_ ⟨rfl, hw_⟩; have hw_ := hw_.symm; subst hw_; rw [show (dst secs full f).secs.length / 2 = ar from HAR.out.symm]))
        | (go_at_call 145; go_must (refine (read_none HX.out at_ 20 1 (by omega) (by omega) (by omega) HIN.out HR1.out).mono ?_; rintro e w1 ⟨rfl, hb1⟩; have HB1 := Lib.hid hb1; clear hb1)))
      refine bodyPost_ret (v := .tuple #[.slice none 0 0, .int .i64 0, .int .i64 0]) (by simp [results, Tryz.results115, go_sem]) rfl ⟨HB1.out, .inl ⟨hF.out, rfl⟩⟩
    | some hdr =>
      have HR1 := Lib.hid hr1
      have HIN := Lib.hid hin
      obtain ⟨N, hN⟩ : ∃ N, N = num4 hdr := ⟨_, rfl⟩
      obtain ⟨x0, hx0⟩ : ∃ x, x = hdr.getD 0 0 := ⟨_, rfl⟩
      obtain ⟨x1, hx1⟩ : ∃ x, x = hdr.getD 1 0 := ⟨_, rfl⟩
      obtain ⟨x2, hx2⟩ : ∃ x, x = hdr.getD 2 0 := ⟨_, rfl⟩
      obtain ⟨x3, hx3⟩ : ∃ x, x = hdr.getD 3 0 := ⟨_, rfl⟩
      have HOR : Hid (bits .or .i64 (bits .or .i64 (bits .or .i64 ((x0.toNat : Int) * 16777216) ((x1.toNat : Int) * 65536)) ((x2.toNat : Int) * 256)) (x3.toNat : Int) = (N : Int)) := by
        show _ = _
        rw [or_four _ _ _ _ x0.toNat_lt x1.toNat_lt x2.toNat_lt x3.toNat_lt, hN, hx0, hx1, hx2, hx3]
        rfl
      have p0 : (x0.toNat : Int) < 256 := by have := x0.toNat_lt; omega
      have p1 : (x1.toNat : Int) < 256 := by have := x1.toNat_lt; omega
      have p2 : (x2.toNat : Int) < 256 := by have := x2.toNat_lt; omega
      have p3 : (x3.toNat : Int) < 256 := by have := x3.toNat_lt; omega
      have HN := Lib.hid hN
      have HN4 : Hid (N < 4294967296) := by show _ < _; rw [hN]; exact num4_lt hdr
      have HXX := Lib.hid (And.intro hx0 (And.intro hx1 (And.intro hx2 hx3)))
      clear h hkt har hmx c1 hnum hr1 hin hN hx0 hx1 hx2 hx3
      go_enter Tryz.func115, Tryz.ntmps115
      go_wp2_with (first
        | (go_at_call 89; go_must (refine (area_any HX.out).mono ?_; rintro e w_ ⟨rfl, hw_⟩; have hw_ := hw_.symm; subst hw_; rw [show (dst secs full f).secs.length / 2 = ar from HAR.out.symm]))
        | (go_at_call 145; go_must (refine (read_some HX.out at_ 20 1 (by omega) (by omega) (by omega) HIN.out hdr HR1.out).mono ?_; rintro e w1 ⟨g1, cc1, rfl, hl1, hc1, hrd1, hg1, hb1⟩; have HB1 := Lib.hid hb1; have HRD1 := Lib.hid (And.intro hl1 hrd1); obtain ⟨b_, off_, he_, _, hcell_⟩ := hrd1.bytes (by omega); cases he_; have q0 := hcell_ 0 (by omega); have q1 := hcell_ 1 (by omega); have q2 := hcell_ 2 (by omega); have q3 := hcell_ 3 (by omega); rw [← HXX.out.1] at q0; rw [← HXX.out.2.1] at q1; rw [← HXX.out.2.2.1] at q2; rw [← HXX.out.2.2.2] at q3; have hcc1 : (20 : Int) ≤ (cc1 : Int) := (by omega); clear hb1 hl1 hrd1 hcell_ hg1 hc1)))
      go_quiet (fail)
      rw [HOR.out]
      obtain ⟨w2, hw2⟩ : ∃ w2, w1.drewN nq = w2 := ⟨_, rfl⟩
      have HB2 : Hid (Below w.heap.size w w2) := by show Below _ _ _; rw [← hw2]; exact HB1.out.trans ⟨rfl, rfl, rfl, Nat.le_refl _, fun _ _ => rfl⟩
      rw [hw2]
      clear hw2 q0 q1 q2 q3 p0 p1 p2 p3
      have hN0 : (0 : Int) ≤ (N : Int) := by omega
      have hFF : Hid (frameF K secs at_ number = if 65536 < N ∨ ar < at_ + secsN N then none else frameH K number (readF secs (20 + N) (secsN N) at_ 1 [])) := by
        show _ = _
        unfold frameF
        rw [← HAR.out, if_neg C1.out, HR1.out]
        unfold frameG
        simp only
        rw [← HN.out, ← HAR.out]
      by_cases c2 : 65536 < N
      · have hd2 : decide ((65536 : Int) < (N : Int)) = true := by simp; omega
        have hF : Hid (frameF K secs at_ number = none) := by show _ = _; rw [hFF.out, if_pos (.inl c2)]
        clear c2
        go_wp2
        refine bodyPost_ret (v := .tuple #[.slice none 0 0, .int .i64 0, .int .i64 0]) (by simp [results, Tryz.results115, go_sem]) rfl ⟨HB2.out, .inl ⟨hF.out, rfl⟩⟩
      · have hd2 : decide ((65536 : Int) < (N : Int)) = false := by simp; omega
        obtain ⟨sn, hsn⟩ : ∃ sn, sn = secsN N := ⟨_, rfl⟩
        have HSN := Lib.hid hsn
        have hs0 : (0 : Int) ≤ (sn : Int) := by omega
        have hs1 : (sn : Int) ≤ 2000 := by unfold secsN at hsn; omega
        have hN1 : (N : Int) ≤ 65536 := by omega
        have HC2 := Lib.hid c2
        clear c2 hsn
        by_cases c3 : ar < at_ + sn
        · have hd3 : decide ((ar : Int) < (at_ : Int) + (sn : Int)) = true := by simp; omega
          have hF : Hid (frameF K secs at_ number = none) := by show _ = _; rw [hFF.out, ← HSN.out, if_pos (.inr c3)]
          clear c3
          go_wp2_with (first
            | (go_at_call 88; go_must (refine (sectors_any N (by have := HC2.out; omega) _).mono ?_; rintro e w_ ⟨rfl, hw_⟩; have hw_ := hw_.symm; subst hw_; rw [← HSN.out]))
            | (go_at_call 89; go_must (refine (area_any (HX.out.below HB2.out)).mono ?_; rintro e w_ ⟨rfl, hw_⟩; have hw_ := hw_.symm; subst hw_; rw [show (dst secs full f).secs.length / 2 = ar from HAR.out.symm])))
          refine bodyPost_ret (v := .tuple #[.slice none 0 0, .int .i64 0, .int .i64 0]) (by simp [results, Tryz.results115, go_sem]) rfl ⟨HB2.out, .inl ⟨hF.out, rfl⟩⟩
        · have hd3 : decide ((ar : Int) < (at_ : Int) + (sn : Int)) = false := by simp; omega
          have HC3 : Hid (at_ + secsN N ≤ secs.length) := by show _ ≤ _; rw [← HSN.out]; have := HAR.out; omega
          have HFF : Hid (frameF K secs at_ number = frameH K number (readF secs (20 + N) (secsN N) at_ 1 [])) := by
            show _ = _
            rw [hFF.out, if_neg (by rw [← HSN.out]; have := HC2.out; omega)]
          clear c3 hFF
          have e20 : Hid ((20 : Int) + (N : Int) = ((20 + N : Nat) : Int)) := by show _ = _; omega
          cases hr2 : readF secs (20 + N) (secsN N) at_ 1 [] with
          | none =>
            have hF : Hid (frameF K secs at_ number = none) := by show _ = _; rw [HFF.out, hr2]; rfl
            have HR2 := Lib.hid hr2
            clear hr2
            go_wp2_with (first
              | (go_at_call 88; go_must (refine (sectors_any N (by have := HC2.out; omega) _).mono ?_; rintro e w_ ⟨rfl, hw_⟩; have hw_ := hw_.symm; subst hw_; rw [← HSN.out]))
              | (go_at_call 89; go_must (refine (area_any (HX.out.below HB2.out)).mono ?_; rintro e w_ ⟨rfl, hw_⟩; have hw_ := hw_.symm; subst hw_; rw [show (dst secs full f).secs.length / 2 = ar from HAR.out.symm]))
              | (go_at_call 145; rw [e20.out]; go_must (refine (read_none (HX.out.below HB2.out) at_ (20 + N) (secsN N) (by omega) (by have := HC2.out; omega) (by unfold secsN; omega) HC3.out HR2.out).mono ?_; rintro e w3 ⟨rfl, hb3⟩; have HB3 := Lib.hid (HB2.out.trans (hb3.mono HB2.out.size)); clear hb3)))
            refine bodyPost_ret (v := .tuple #[.slice none 0 0, .int .i64 0, .int .i64 0]) (by simp [results, Tryz.results115, go_sem]) rfl ⟨HB3.out, .inl ⟨hF.out, rfl⟩⟩
          | some b =>
            have hF : Hid (frameF K secs at_ number = if (b.drop 4).take 16 = tagF K number (b.drop 20) then some (b.drop 20) else none) := by show _ = _; rw [HFF.out, hr2]; rfl
            have HR2 := Lib.hid hr2
            clear hr2
            go_wp2_with (first
              | (go_at_call 88; go_must (refine (sectors_any N (by have := HC2.out; omega) _).mono ?_; rintro e w_ ⟨rfl, hw_⟩; have hw_ := hw_.symm; subst hw_; rw [← HSN.out]))
              | (go_at_call 89; go_must (refine (area_any (HX.out.below HB2.out)).mono ?_; rintro e w_ ⟨rfl, hw_⟩; have hw_ := hw_.symm; subst hw_; rw [show (dst secs full f).secs.length / 2 = ar from HAR.out.symm]))
              | (go_at_call 145; rw [e20.out]; go_must (refine (read_some (HX.out.below HB2.out) at_ (20 + N) (secsN N) (by omega) (by have := HC2.out; omega) (by unfold secsN; omega) HC3.out b HR2.out).mono ?_; rintro e w3 ⟨g3, cc3, rfl, hl3, hc3, hrd3, hg3, hb3⟩; have HB3 := Lib.hid (HB2.out.trans (hb3.mono HB2.out.size)); have HRD3 := Lib.hid (And.intro hl3 (And.intro hrd3 hc3)); obtain ⟨A20, hA20⟩ : ∃ A, A = (if cc3 = 20 then some (⟨g3, 0, none⟩ : Addr) else some ⟨g3, 20, none⟩) := ⟨_, rfl⟩; have hs20 := slK20 g3 N cc3; rw [← hA20] at hs20; have HA20 := Lib.hid hA20; have hs4 := sl4_20 g3 N cc3 hc3; clear hb3 hl3 hrd3 hg3 hc3 hA20)))
            have RD20 : Hid (Reads w3 w3.heap.size 1 A20 N (bvs (b.drop 20))) := by
              show Reads _ _ _ _ _ _
              have h_ := HRD3.out.2.1.cut (k := 20) (cap := cc3) (by omega) HRD3.out.2.2
              rw [Nat.add_sub_cancel_left, show (20 * 1 : Nat) = 20 from rfl] at h_
              rw [HA20.out]
              have e : (if cc3 = 20 then some (⟨g3, 0, none⟩ : Addr) else Option.map (fun x : Addr => x.add 20) (some ⟨g3, 0, none⟩)) = (if cc3 = 20 then some (⟨g3, 0, none⟩ : Addr) else some ⟨g3, 20, none⟩) := rfl
              rw [e] at h_
              simpa [bvs, List.map_drop] using h_
            have hbl : Hid ((b.drop 20).length = N) := by show _ = _; rw [List.length_drop, HRD3.out.1]; omega
            go_wp2_with (go_at_call 93; go_must (refine (Clone_any A20 N (cc3 - 20) (b.drop 20) w3 RD20.out (by have := HC2.out; omega)).mono ?_; rintro e w4 ⟨u, rfl, hu, hb4⟩; obtain ⟨Au, cu, rfl, hcu, hru⟩ := own8_form' hu hbl.out; have HU := Lib.hid (And.intro hu (And.intro hcu hru)); have HB4 := Lib.hid (HB3.out.trans (hb4.mono HB3.out.size)); have HB34 := Lib.hid hb4; clear hu hcu hru hb4))
            obtain ⟨zs, hzs⟩ : ∃ zs : Array Value, zs = (bvs zero16).toArray := ⟨_, rfl⟩
            have HZ := Lib.hid hzs
            have HZS : Hid (zs.size = 16) := by show _ = _; rw [hzs]; rfl
            have HSA : Hid (∀ w', Below w4.heap.size w4 w' → w'.rangeAt gl 2 zs.toList) := by
              show ∀ _, _
              intro w' hw'
              rw [hzs, List.toList_toArray]
              exact (HX.out.below (HB4.out.trans (hw'.mono HB4.out.size))).salt
            clear hzs hEQ hs20 hd hd2 hd3
            refine AnyC.startB (fun w' => Below w4.heap.size w4 w') (by kernel_rfl) rfl ?_
            intro w5 hb5 hs5
            have HB5 := Lib.hid hb5
            clear hb5 hs5
            apply AnyC.take (i := 0) rfl (by kernel_rfl) rfl
            · intro w' hC K hK
              go_wp2
              exact hK
            · rfl
            apply AnyC.take (i := 1) rfl (by kernel_rfl) rfl
            · intro w' hC K hK
              go_wp2
              exact hK
            · rfl
            apply AnyC.take (i := 2) rfl (by kernel_rfl) rfl
            · intro w' hC K hK
              go_wp2
              exact hK
            · rfl
            apply AnyC.take (i := 3) rfl (by kernel_rfl) rfl
            · intro w' hC K hK
              go_wp2
              exact hK
            · rfl
            apply AnyC.take (i := 4) rfl (by kernel_rfl) rfl
            · intro w' hC K hK
              go_wp2
              exact hK
            · rfl
            apply AnyC.take (i := 5) rfl (by kernel_rfl) rfl
            · intro w' hC K hK
              refine wpList_load_arr rfl _ _ rfl gl 2 rfl zs _ (by with_reducible exact HSA.out w' hC) Tryz.underlying188 rfl (by rw [HZS.out]; kernel_rfl) ?_
              go_wp2
              exact hK
            · rfl
            apply AnyC.take (i := 6) rfl (by kernel_rfl) rfl
            · intro w' hC K hK
              go_wp2
              exact hK
            · rfl
            apply AnyC.take (i := 7) rfl (by kernel_rfl) rfl
            · intro w' hC K hK
              go_wp2
              exact hK
            · rfl
            apply AnyC.solo (i := 8) rfl (by kernel_rfl) HB5.out
            rw [HZ.out]
            go_wp2_with (go_at_call 119; go_must (refine (sum_any K number HNUM.out Au N cu (b.drop 20) w5 (reads_bel HU.out.2.2 HB5.out) (fun _ ad e_ => ?_) HU.out.2.1 (by have := HC2.out; omega) (HK.out.bel (HB4.out.trans (HB5.out.mono HB4.out.size)))).mono ?_; exact Nat.lt_of_lt_of_le ((own8_lt HU.out.1) ad.block (by rw [e_]; rfl)).2 HB5.out.size; rintro e w6 ⟨g6, rfl, hg6, hr6, hb6⟩; have HB6 := Lib.hid (HB5.out.trans (hb6.mono HB5.out.size)); have HR6 := Lib.hid hr6; clear hg6 hr6 hb6))
            refine ⟨rfl, ?_⟩
            have RD4 : Hid (Reads w6 w6.heap.size 1 (some ⟨g3, 4, none⟩) 16 (bvs ((b.drop 4).take 16))) := by
              have h_ := reads_mid (w' := w6) HRD3.out.2.1 (HB34.out.trans (HB6.out.mono HB34.out.size)) 4 16 (by omega)
              rw [Nat.zero_add] at h_
              exact h_.more (Nat.le_trans HB34.out.size HB6.out.size)
            obtain ⟨eq, heq⟩ : ∃ eq, eq = decide ((b.drop 4).take 16 = tagF K number (b.drop 20)) := ⟨_, rfl⟩
            have HEQ := Lib.hid heq
            clear heq
            apply AnyC.solo (i := 9) rfl (by kernel_rfl) HB6.out
            go_wp2_with (go_at_call 146; go_must (refine (Equal_any _ _ _ _ _ _ _ _ _ _ w6 RD4.out HR6.out).mono ?_; rintro e w_ ⟨rfl, hw_⟩; have hw_ := hw_.symm; subst hw_; rw [← HEQ.out]))
            refine ⟨rfl, ?_⟩
            apply AnyC.take (i := 10) rfl (by kernel_rfl) rfl
            · intro w' hC K hK
              go_wp2
              exact hK
            · rfl
            refine AnyC.done HB6.out (by kernel_rfl) ?_
            have HBF := Lib.hid (HB4.out.trans (HB6.out.mono HB4.out.size))
            have hbl2 := hbl.out
            cases eq with
            | false =>
              have hFn : Hid (frameF K secs at_ number = none) := by show _ = _; rw [hF.out, if_neg (by have h_ := HEQ.out; simpa using h_.symm)]
              clear hbl2
              go_wp2
              refine bodyPost_ret (v := .tuple #[.slice none 0 0, .int .i64 0, .int .i64 0]) (by simp [results, Tryz.results115, go_sem]) rfl ⟨HBF.out, .inl ⟨hFn.out, rfl⟩⟩
            | true =>
              have hFy : Hid (frameF K secs at_ number = some (b.drop 20)) := by show _ = _; rw [hF.out, if_pos (by have h_ := HEQ.out; simpa using h_.symm)]
              clear hbl2
              go_wp2_with (go_at_call 88; go_must (refine (sectors_any N (by have := HC2.out; omega) _).mono ?_; rintro e w_ ⟨rfl, hw_⟩; have hw_ := hw_.symm; subst hw_; rw [← HSN.out]))
              refine bodyPost_ret (v := .tuple #[.slice Au N cu, .int .i64 (sn : Int), .int .i64 0]) (by simp [results, Tryz.results115, go_sem]) rfl ⟨HBF.out, .inr ⟨b.drop 20, .slice Au N cu, hFy.out, ?_, ?_, by rw [hbl.out]; have := HC2.out; omega⟩⟩
              · rw [hbl.out, HSN.out]
              · exact own8_below (own8_base HU.out.1 HB3.out.size) HB6.out
end Go.Proofs.YtbcpmnnlhdgbhaaGreatDoor
