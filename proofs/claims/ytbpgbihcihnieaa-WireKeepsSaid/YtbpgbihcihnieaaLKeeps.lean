/- The walk of the law WireKeeps. No conditions. -/
import Derived.Test.YtbpgbihcihnieaaLBack
import Derived.Test.YtbpgbihcihnieaaW10
namespace Go.Proofs.Ytbpgbihcihnieaa
open Go.RowKit
theorem bulk_get : ∀ (ls : List (List UInt8)) (i : Nat), (ls.getD i []).length ≤ bulk ls
  | [], i => by simp
  | l :: ls, 0 => by simp [bulk]; omega
  | l :: ls, i + 1 => by
    have := bulk_get ls i
    simp [bulk] at *
    omega
theorem decV_get (l : List UInt8) (i : Nat) : ((decV l).getD i []).length ≤ 1048576 := by
  rcases dec_cases l with ⟨_, ls, h1, h2, h3, h4⟩ | ⟨_, h⟩
  · rw [h1]
    rw [h2, List.length_append, be4_length, members_length] at h4
    have := bulk_get ls i
    omega
  · rw [h]; simp
theorem OwnL.form {w : World} {base n : Nat} {v : Value} {ls : List (List UInt8)} (h : OwnL w base v ls) (hn : ls.length = n) : ∃ A c, v = .slice A n c ∧ n ≤ c ∧ Lists w w.heap.size A ls := by
  subst hn; exact h.lists
theorem own8_room {w : World} {base n : Nat} {v : Value} {l : List UInt8} {u : UInt8} (h : Own8 w base v (l ++ [u])) (hn : l.length = n) : ∃ g c, v = .slice (some ⟨g, 0, none⟩) (n + 1) c ∧ n + 1 ≤ c ∧ base ≤ g ∧ g < w.heap.size ∧ w.cell? ⟨g, n, none⟩ = some (.int .u8 (u.toNat : Int)) ∧ Reads w w.heap.size 1 (some ⟨g, 0, none⟩) n (bvs l) := by
  subst hn
  have hlen : (l ++ [u]).length = l.length + 1 := by simp
  have h0 : w.ownsRow base 5 1 v (l.length + 1) (bvs (l ++ [u])) := by rw [← hlen]; exact h
  obtain ⟨g, c, rfl, h1, h2, h3⟩ := row_slice h0 (by omega)
  refine ⟨g, c, rfl, h3, h1, h2, ?_, ?_⟩
  · obtain ⟨y, hy, hc⟩ := (row_form h0).2.2 l.length (by omega)
    rw [hc]
    have : (bvs (l ++ [u]))[l.length]? = some (bv u) := by simp [bvs]
    rw [this] at hy; cases hy; rfl
  · have := (Reads.of_own h0).take (k := l.length) (by omega)
    rw [Nat.mul_one, bvs_append, List.take_append_of_le_length (by simp [bvs]), List.take_of_length_le (by simp [bvs])] at this
    exact this
theorem Decode_at {n : Nat} (A : Option Addr) (c : Nat) (l : List UInt8) (w : World) (hn : l.length = n) (hr : Reads w w.heap.size 1 A n (bvs l)) (hc : n ≤ c) (hm : n ≤ 140737488355328) :
    Calls Try.prog 25 #[.slice A n c] w (DecPost l w) := by subst hn; exact Decode_any A c l w hr hc hm
theorem rDecode_at {n : Nat} (A : Option Addr) (c : Nat) (l : List UInt8) (w : World) (hn : l.length = n) (hr : Reads w w.heap.size 1 A n (bvs l)) (hc : n ≤ c) (hm : n ≤ 140737488355328) :
    Calls Try.prog 24 #[.slice A n c] w (DecPost l w) := by subst hn; exact rDecode_any A c l w hr hc hm
theorem SameList_at {n m : Nat} (A A2 : Option Addr) (c c2 : Nat) (ls ms : List (List UInt8)) (w : World) (hn : ls.length = n) (hm : ms.length = m) (h1 : Lists w w.heap.size A ls) (h2 : Lists w w.heap.size A2 ms) (hn1 : n ≤ 140737488355328) (hm1 : m ≤ 140737488355328) (he : ls = ms) :
    Calls Try.prog 26 #[.slice A n c, .slice A2 m c2] w (fun e w' => e = .returned (.bool true) ∧ Below w.heap.size w w') := by
  subst hn; subst hm
  refine (SameList_any A A2 c c2 ls ms w h1 h2 hn1 hm1).mono ?_
  rintro e w' ⟨h, hb⟩
  exact ⟨by rw [h, decide_eq_true he], hb⟩
set_option maxRecDepth 100000 in
set_option maxHeartbeats 2000000 in
theorem WireKeeps_walk (v0 v1 : Value) (ls : List (List UInt8)) (l : List UInt8) (w : World) (a0 : ArgL w v0 ls) (a1 : ArgB w v1 l) :
    Calls Try.prog 8 #[v0, v1] w fun e w' => e = .returned (.bool true) ∧ Below w.heap.size w w' := by
  obtain ⟨A0, c0, rfl, _, hl, hn, hm'⟩ := a0
  obtain ⟨A, c, rfl, hc, hr, hm⟩ := a1
  rw [reach_eq] at hm hn
  have hm0 : ∀ l ∈ ls, l.length ≤ 140737488351232 := hm'
  clear hm'
  obtain ⟨n, hnl⟩ : ∃ n, n = l.length := ⟨_, rfl⟩
  rw [← hnl] at hc hr hm ⊢
  obtain ⟨N, hN⟩ : ∃ N, (decV l).length = N := ⟨_, rfl⟩
  have hd := decV_len l
  rw [hN] at hd
  have HN := Lib.hid hN
  have Hnl := Lib.hid hnl.symm
  clear hN hnl
  have hbl := Lib.hid (decV_get l)
  go_enter Try.func8, Try.ntmps8
  have tok1 : True := trivial
  have tok2 : True := trivial
  go_wp2_with (first
    | (go_at_call 12; go_must (refine (awake_any _).mono ?_; rintro e w1 ⟨rfl, hb1⟩))
    | (at_builtin; have _t := tok1; go_must (refine app8 rfl rfl rfl rfl (own8_zero w1 w1.heap.size (Nat.le_refl _)) (hr.below (hb1.alloc hb1.size _)) (by simp; omega) (by simp) ?_; intro v2 w2 hown2 hg2 hx2; have hb2 : Below w1.heap.size w1 w2 := below_own8 ((Below.refl _ _).alloc (Nat.le_refl _) _) (own8_zero w1 w1.heap.size (Nat.le_refl _)) hg2; clear tok1; simp only [List.nil_append] at hown2))
    | (at_builtin; go_must (refine app8 rfl rfl rfl rfl (hown2.alloc _) (news := [77]) (reads_new _ _ _ _ rfl) (by have := Hnl.out; omega) (by have := hb2.size; simp; omega) ?_; intro v3 w3 hown3 hg3 hx3; have hb3' : Below w1.heap.size w1 w3 := below_own8 (hb2.alloc hb2.size _) (hown2.alloc _) hg3; have hb3 := hb1.trans (hb3'.mono hb1.size); obtain ⟨g3, c3, rfl, hc3, hgb3, hgl3, hcell3, hr3⟩ := own8_room hown3 Hnl.out; clear hx3 hg3))
    | (go_at_call 25; have _t := tok2; go_must (refine (Decode_at (some ⟨g3, 0, none⟩) c3 l _ Hnl.out hr3 (by omega) (by omega)).mono ?_; rintro e w4 ⟨v4, rfl, hown4, hb4⟩; obtain ⟨A4, c4, rfl, _, hl4⟩ := hown4.form HN.out; clear tok2))
    | (go_at_call 25; go_must (refine (Decode_at (some ⟨g3, 0, none⟩) c3 l _ Hnl.out ((hr3.below hb4).more hb4.size) (by omega) (by omega)).mono ?_; rintro e w5 ⟨v5, rfl, hown5, hb5⟩; obtain ⟨A5, c5, rfl, _, hl5⟩ := hown5.form HN.out))
    | (go_at_call 24; go_must (have hb6' := hb3.trans ((hb4.trans (hb5.mono hb4.size)).mono hb3.size); refine (rDecode_at A c l _ Hnl.out ((hr.below hb6').more hb6'.size) hc (by omega)).mono ?_; rintro e w6 ⟨v6, rfl, hown6, hb6⟩; obtain ⟨A6, c6, rfl, _, hl6⟩ := hown6.form HN.out)))
  obtain ⟨vs0, hmut⟩ := MutV.start hown4 (mid_ := w4.heap.size) rfl (hb5.trans (hb6.mono hb5.size)) hb4.size
  rw [HN.out] at hmut
  go_loopw [47] (fun i wr => ∃ (k : Nat) (f : Nat → Nat) (vs : List Value), k ≤ N ∧ i = .int .i64 k ∧ MutV w6 wr w3.heap.size w4.heap.size (.slice A4 N c4) N f vs ∧ Hid (∀ m, k ≤ m → f m ≤ 1048576)) (fun i _ => N - (intOf i).toNat)
  case atStart => exact ⟨0, _, vs0, Nat.zero_le _, rfl, hmut, fun m _ => hbl.out m⟩
  case round =>
    obtain ⟨k, f, vs, hk, rfl, hM, hf⟩ := hrel
    by_cases hlt : k < N
    · obtain ⟨gx, cx, hx⟩ : ∃ gx cx, Value.slice A4 N c4 = .slice (some ⟨gx, 0, none⟩) N cx := by
        obtain ⟨gx, cx, _, _, _, hx, _⟩ := hM.elt hlt
        exact ⟨gx, cx, hx⟩
      cases hx
      obtain ⟨z, hz⟩ : ∃ z, f k = z := ⟨_, rfl⟩
      have hzk : (z : Int) ≤ 1048576 := by have := hf.out k (Nat.le_refl _); omega
      have Hz := Lib.hid hz
      obtain ⟨A7, c7, l7, hcell, hc7, hl7, hv7, hown7, hgx⟩ := hM.elt2 hlt hz
      have hM0 := hM
      have hlt' : (k : Int) < (N : Int) := by omega
      clear hz hv7 hown7 hl7 hM
      go_wp2
      go_loopw [55] (fun i wr => ∃ (j : Nat), j ≤ z ∧ i = .int .i64 j ∧ MutV w6 wr w3.heap.size w4.heap.size (.slice (some ⟨gx, 0, none⟩) N c4) N f vs) (fun i _ => z - (intOf i).toNat)
      case atStart => exact ⟨0, Nat.zero_le _, rfl, hM0⟩
      case round =>
        clear hcell hgx hM0
        obtain ⟨j, hj, rfl, hM1⟩ := hrel
        by_cases hlt2 : j < z
        · obtain ⟨g8, c8, y8, hcell, hcell8, hfz8, hM2⟩ := hM1.elt3 hlt Hz.out hlt2 9 9 rfl
          have hlt2' : (j : Int) < (z : Int) := by omega
          go_wp2
          go_roundw
          case rel => exact ⟨j + 1, by omega, by go_num, hM2⟩
          case measure => simp [intOf]; omega
        · go_wp2
          go_loopw [65] (fun i wr => ∃ (j : Nat) (f' : Nat → Nat) (vs' : List Value), j ≤ 9 ∧ i = .int .i64 j ∧ MutV w6 wr w3.heap.size w4.heap.size (.slice (some ⟨gx, 0, none⟩) N c4) N f' vs' ∧ Hid (f' k ≤ 1048576 + j ∧ ∀ m, k < m → f' m ≤ 1048576)) (fun i _ => 9 - (intOf i).toNat)
          case atStart => exact ⟨0, f, vs, Nat.zero_le _, rfl, hM1, hf.out k (Nat.le_refl _), fun m hm => hf.out m (by omega)⟩
          case round =>
            clear hM1 hf Hz
            obtain ⟨q, f', vs', hq, rfl, hM3, hf'⟩ := hrel
            by_cases hlt3 : q < 9
            · obtain ⟨y, hy⟩ : ∃ y, f' k = y := ⟨_, rfl⟩
              have Hy := Lib.hid hy
              have hyk : (y : Int) ≤ 1048576 + 9 := by have := hf'.out.1; omega
              obtain ⟨A9, c9, l9, hcell, hc9, hl9, hv9, hown9, hgx⟩ := hM3.elt2 hlt hy
              have hw6 := hM3.leN
              have Hl9 := Lib.hid hl9
              clear hy hl9
              go_wp2_with (at_builtin; go_must (refine app8 rfl rfl rfl rfl (hown9.alloc _) (news := [9]) (reads_new _ _ _ _ rfl) (by have := Hl9.out; omega) (by simp; omega) ?_; intro v10 w10 hown10 hg10 hx10; obtain ⟨A10, c10, rfl, hc10, _⟩ := own8_form' (n := y + 1) hown10 (by simp; exact Hl9.out); obtain ⟨y10, hcell10, hfz10, hM4⟩ := hM3.elt4 hlt hv9 hg10 hown10 (by simp; exact Hl9.out) hx10; clear hcell hx10 hg10))
              go_roundw
              case rel => exact ⟨q + 1, _, _, by omega, by go_num, hM4, by simp; have := hf'.out.1; have := Hy.out; omega, fun m hm => by rw [if_neg (by omega)]; exact hf'.out.2 m hm⟩
              case measure => simp [intOf]; omega
            · go_wp2
              go_roundw
              case rel => exact ⟨k + 1, f', vs', by omega, by go_num, hM3, fun m hm => hf'.out.2 m (by omega)⟩
              case measure => simp [intOf]; omega
    · have hbm : Below w.heap.size w wr := hb3.trans (((hb4.trans ((hb5.trans (hb6.mono hb5.size)).mono hb4.size)).trans hM.bel).mono hb3.size)
      have hb3m : Below w3.heap.size w3 wr := (hb4.trans ((hb5.trans (hb6.mono hb5.size)).mono hb4.size)).trans hM.bel
      have hy5 := (hown5.below hb6).keepB hM.mid
      have hy6 := hown6.keepB (fun k hk => hM.mid k (Nat.le_trans hb5.size hk))
      have hbig : w6.heap.size ≤ wr.heap.size := hM.bel.size
      have hbw : w3.heap.size ≤ w6.heap.size := hM.le
      obtain ⟨wr0, hwr0⟩ : ∃ wr0, wr0 = wr := ⟨_, rfl⟩
      subst hwr0
      clear hM hf
      go_wp2_with (first
        | (go_at_call 15; go_must (refine (copyList_any _ _ ls _ ((hl.below hbm).more hbm.size) hn hm0).mono ?_; rintro e w7 ⟨v7, rfl, hown7, hb7⟩; obtain ⟨A7, c7, rfl, _, hl7⟩ := hown7.lists))
        | (go_at_call 14; go_must (refine (Encode_any _ _ ls _ hl7 (by omega)).mono ?_; rintro e w8 ⟨v8, rfl, hown8, hb8⟩; obtain ⟨S, hS⟩ : ∃ S, (encB ls).length = S := ⟨_, rfl⟩; obtain ⟨A8, c8, rfl, hc8, _⟩ := own8_form' hown8 hS; have HS := Lib.hid hS; have hSb : (S : Int) ≤ 140737488355328 := (by have := encB_len ls; omega); clear hS)))
      go_loopw [87] (fun i wr => ∃ (j : Nat) (m : List UInt8), j ≤ S ∧ i = .int .i64 j ∧ Own8 wr w7.heap.size (.slice A8 S c8) m ∧ Hid (m.length = S) ∧ Below w7.heap.size w7 wr) (fun i _ => S - (intOf i).toNat)
      case atStart => exact ⟨0, _, Nat.zero_le _, rfl, hown8, HS, hb8⟩
      case round =>
        obtain ⟨j, m, hj, rfl, hownr, hml, hbr⟩ := hrel
        by_cases hlt : j < S
        · have hlt' : (j : Int) < (S : Int) := by omega
          obtain ⟨g8, c8', hA⟩ : ∃ g8 c8', Value.slice A8 S c8 = .slice (some ⟨g8, 0, none⟩) S c8' := by
            have := hml.out; subst this
            obtain ⟨g8, c8', h, _⟩ := row_slice hownr (by omega)
            exact ⟨g8, c8', h⟩
          cases hA
          have hg8 := (own8_lt hownr g8 rfl).1
          have hfz := frozen8 hownr j
          obtain ⟨y8, hcell⟩ : ∃ y, wr.cell? ⟨g8, j, none⟩ = some y := by
            have := hml.out; subst this
            obtain ⟨y, _, hy⟩ := (row_form hownr).2.2 j hlt
            exact ⟨y, hy⟩
          have hst := (store8 hownr (k := j) 9 9 rfl).1
          go_wp2
          go_roundw
          case rel => exact ⟨j + 1, _, by omega, by go_num, hst, by have := hml.out; refine Lib.hid ?_; rw [List.length_set]; exact this, hbr.setCell hg8 _⟩
          case measure => simp [intOf]; omega
        · have hbr' : Below w3.heap.size wr0 wr := ((hb7.trans (hbr.mono hb7.size)).mono (Nat.le_trans hbw hbig))
          have hr' := (hr.below hbm).below ((hb7.trans (hbr.mono hb7.size)).mono hbm.size)
          have hr3' := (hr3.below hb3m).below hbr'
          have hcell' := ((hb3m.trans hbr').cell (p := ⟨g3, n, none⟩) hgl3).trans hcell3
          have hs1 := run_str8 hr' c
          have hs3 := run_str8 hr3' c3
          have hn' : (n : Int) < (n : Int) + 1 := by omega
          have hbz : Below wr0.heap.size wr0 wr := hb7.trans (hbr.mono hb7.size)
          have hl5' := ((hy5.below hbz)).reads
          have hl6' := ((hy6.below hbz)).reads
          have hl7' := (hown7.below hbr).reads
          have hl0' := (hl.below (hbm.trans (hbz.mono hbm.size))).more (hbm.trans (hbz.mono hbm.size)).size
          clear hy5 hy6 hown7 hl7 hownr hcell3 hown8 hb8
          have tok3 : True := trivial
          go_wp2_with (first
            | (go_at_call 26; have _t := tok3; go_must (refine (SameList_at A5 A6 c5 c6 (decV l) (decV l) _ HN.out HN.out hl5' hl6' hd hd rfl).mono ?_; rintro e w9 ⟨rfl, hb9⟩; clear tok3))
            | (go_at_call 26; go_must (refine (SameList_at A7 A0 c7 c0 ls ls _ rfl rfl ((hl7'.below hb9).more hb9.size) ((hl0'.below hb9).more hb9.size) (by omega) (by omega) rfl).mono ?_; rintro e w10 ⟨rfl, hb10⟩)))
          go_ret
          exact ⟨rfl, hbm.trans ((hbz.trans ((hb9.trans (hb10.mono hb9.size)).mono hbz.size)).mono hbm.size)⟩
end Go.Proofs.Ytbpgbihcihnieaa
