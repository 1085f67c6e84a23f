/- Feed: bytes in a row. No conditions. -/
import Derived.Test.YtjichadkonlfpaaDoorH12
import Derived.Deep.LoopGhost
namespace Go.Proofs.YtjichadkonlfpaaDoor
open Go.RowKit
def FI (g : Nat) (W0 H0 B0 : Value) (w0 : World) (s0 : PS) (l : List UInt8) (k : Nat) (d : Value) (w : World) : Prop :=
  ∃ s L W H B, FS g W0 H0 B0 w0 s d L W H B w ∧ Ok s ∧ ¬ (s.st = 9 ∧ s.lf = 0) ∧ feedP s0 l = ((feedP s (l.drop k)).1, L.map (·.1) ++ (feedP s (l.drop k)).2.1, (feedP s (l.drop k)).2.2)
def FeedPost (g : Nat) (W0 H0 B0 : Value) (w0 : World) (s0 : PS) (l : List UInt8) (e : Ending) (w' : World) : Prop :=
  ∃ v L W H B, e = .returned (.tuple #[v, .int .i64 (feedP s0 l).2.2]) ∧ L.map (·.1) = (feedP s0 l).2.1 ∧ FS g W0 H0 B0 w0 (feedP s0 l).1 v L W H B w'
theorem FeedPost.intro {g : Nat} {W0 H0 B0 W H B v : Value} {w0 w' : World} {s0 : PS} {l : List UInt8} {L : List Held1} {r : PS × List Req × Int} {x : Value} (hf : feedP s0 l = r) (hx : x = .tuple #[v, .int .i64 r.2.2]) (hL : L.map (·.1) = r.2.1) (h : FS g W0 H0 B0 w0 r.1 v L W H B w') : FeedPost g W0 H0 B0 w0 s0 l (.returned x) w' := by
  subst hf hx
  exact ⟨v, L, W, H, B, rfl, hL, h⟩
theorem drop_get {l : List UInt8} {k : Nat} (h : k < l.length) : l.drop k = l.getD k 0 :: l.drop (k + 1) := by
  rw [List.drop_eq_getElem_cons h]
  congr 1
  simp [h]
theorem Frm.cell_of {ps : List Nat} {w w' : World} {b o : Nat} (h : Frm ps w w') (hb : b < w.heap.size) (hn : b ∉ ps) : w'.cell? ⟨b, o, none⟩ = w.cell? ⟨b, o, none⟩ := World.cell?_of_block (a := ⟨b, o, none⟩) (h.block b hb hn)
/-- The list that is handed out and the row of one request. -/
theorem req_row {g : Nat} {s : PS} {W H B : Value} {w : World} (P : Par w g s W H B) : w.rangeAt g 4 (reqC (reqOf s, H, B)) := by
  have h := range_row P.row
  intro j u hu
  have := h (4 + j) u (by
    rw [← hu]
    have hj : j < 5 := by
      have := (List.getElem?_eq_some_iff.1 hu).1
      simpa [reqC] using this
    obtain rfl | rfl | rfl | rfl | rfl : j = 0 ∨ j = 1 ∨ j = 2 ∨ j = 3 ∨ j = 4 := by omega
    all_goals rfl)
  rw [Nat.zero_add] at this
  exact this
set_option maxRecDepth 100000 in
set_option maxHeartbeats 2000000 in
theorem feed_any (w : World) (g : Nat) (s : PS) (W H B : Value) (l : List UInt8) (A : Option Addr) (n c : Nat) (P : Par w g s W H B) (hk : Ok s) (hw : ¬ (s.st = 9 ∧ s.lf = 0)) (hen : s.en = false) (hr : Reads w w.heap.size 1 A n (bvs l)) (ha : 0 < n → ∀ b off, A = some ⟨b, off, none⟩ → b ∉ PL g W H B) (hN : (feedP s l).2.1.length * 88 ≤ 140737488355328) (hn : n ≤ 140737488355328) :
    Calls Tryd.prog 10 #[.pointer (some ⟨g, 0, none⟩), .slice A n c] w (FeedPost g W H B w s l) := by
  have e1 := P.at_.2.1
  rw [hen] at e1
  have hln : l.length = n := by have := hr.1; rw [bvs_length] at this; omega
  have F0 : Hid (FI g W H B w s l 0 (.slice none 0 0) w) := ⟨s, [], W, H, B, FS.start P, hk, hw, by simp⟩
  have HR := Lib.hid hr
  have HA := Lib.hid ha
  have HN := Lib.hid hN
  have HLN := Lib.hid hln
  have hnI : (n : Int) ≤ 140737488355328 := by omega
  obtain ⟨i0, hi0, hz0, hz1, hz2⟩ := info_parts reqinfo
  have HI0 := Lib.hid hi0
  have HZ0 := Lib.hid hz0
  have HZ1 := Lib.hid hz1
  have HZ2 := Lib.hid hz2
  clear P hk hw hen hr ha hN hln hn hi0 hz0 hz1 hz2
  go_enter Tryd.func10, Tryd.ntmps10
  go_wp2
  go_step3
  go_wp2
  go_step3
  go_wp2
  go_loopw [6, 7, 21] (fun d t i wr => ∃ k : Nat, k ≤ n ∧ i = .int .i64 (k : Int) ∧ t = .int .i64 0 ∧ Hid (FI g W H B w s l k d wr)) (fun _ _ i _ => n - (intOf i).toNat)
  case atStart => exact ⟨0, Nat.zero_le _, rfl, rfl, F0⟩
  case round =>
    obtain ⟨k, hk, rfl, rfl, hO⟩ := hrel
    by_cases hlt : k < n
    · obtain ⟨s1, L, W1, H1, B1, F, ok, nw, eq⟩ := hO.out
      have hlt' : (k : Int) < (n : Int) := by omega
      have hk0 : (0 : Int) ≤ (k : Int) := by omega
      obtain ⟨bb, off, hA, hbb, hcell⟩ := HR.out.bytes (by omega)
      subst hA
      have cc := hcell k hlt
      rw [← Frm.cell_of (o := off + k) F.stp.frm hbb (HA.out (by omega) bb off rfl)] at cc
      rw [drop_get (by rw [HLN.out]; exact hlt)] at eq
      obtain ⟨x, hx⟩ : ∃ x, x = l.getD k 0 := ⟨_, rfl⟩
      rw [← hx] at cc eq
      have T1 := Lib.hid (take1_any wr g s1 W1 H1 B1 x F.par ok)
      have OK := Lib.hid (take1_ok ok nw (c := x))
      obtain ⟨R, v, hR⟩ : ∃ R v, take1P s1 x = (R, v) := ⟨_, _, rfl⟩
      rw [hR] at T1 OK
      rw [feedP, hR] at eq
      obtain ⟨Ad, cd, hd, _, _⟩ := ownR_form F.held.row
      subst hd
      have HF := Lib.hid F
      have HK := Lib.hid hlt
      clear F ok nw hx hcell hbb hO hR
      by_cases hv : v = 0
      · subst hv
        simp only [ne_eq, not_true_eq_false, if_false] at eq
        have OK1 := Lib.hid (OK.out rfl)
        by_cases hwh : R.st = 9 ∧ R.lf = 0
        · rw [if_pos hwh] at eq
          obtain ⟨h9, hl0⟩ := hwh
          cases hcl : R.cl
          · rw [hcl] at eq
            simp only [Bool.false_eq_true, if_false] at eq
            have EQ := Lib.hid eq
            clear eq
            go_wp2_with (go_at_call 17; go_must (refine T1.out.mono ?_; rintro e w1 ⟨rfl, W2, H2, B2, P1, S1⟩; have F1 := Lib.hid (HF.out.step P1 S1); clear P1 S1))
            go_loopg [6] 1 (fun gh d wx => (gh = 1 ∧ d = .slice Ad L.length cd ∧ Hid (FS g W H B w R (.slice Ad L.length cd) L W2 H2 B2 wx)) ∨ (gh = 0 ∧ Hid (FS g W H B w (zeroP false) d (L ++ [(reqOf R, H2, B2)]) (.slice none 0 0) (.slice none 0 0) (.slice none 0 0) wx)))
            case atStart => exact .inl ⟨rfl, rfl, F1⟩
            case round =>
              rcases hrel with ⟨rfl, rfl, hF⟩ | ⟨rfl, hF⟩
              · skip
                have x_ := hF.out.par.at_
                obtain ⟨x0, _, _, _, _, _, _, _, _, _, x10⟩ := x_
                rw [h9] at x0
                rw [hl0] at x10
                obtain ⟨A6, c6, hH6, _, _⟩ := ownR_form hF.out.par.hs
                obtain ⟨A7, c7, hB7, _, _⟩ := own8_form hF.out.par.bd
                subst hH6 hB7
                obtain ⟨pc, hpc⟩ : ∃ pc : Array Value, pc = (reqC (reqOf R, .slice A6 R.hs.length c6, .slice A7 R.bd.length c7)).toArray := ⟨_, rfl⟩
                have PZ : Hid (pc.size = 5) := by show _ = _; rw [hpc]; rfl
                have PO : Hid ((pc.all fun x => x.oneCell') = true) := by show _ = _; rw [hpc]; kernel_rfl
                have PL_ : Hid (pc.toList = reqC (reqOf R, .slice A6 R.hs.length c6, .slice A7 R.bd.length c7)) := by show _ = _; rw [hpc]
                have RG : Hid (wr.rangeAt g 4 pc.toList) := by show World.rangeAt _ _ _ _; rw [hpc, List.toList_toArray]; exact req_row hF.out.par
                have BL : Hid (Below wr.heap.size wr (wr.alloc (.cells pc 36))) := (Below.refl _ wr).alloc (Nat.le_refl _) _
                have LB : Hid ((L.length + 1) * 88 ≤ 140737488355328) := by
                  show _ ≤ _
                  have h1 := HN.out
                  rw [EQ.out] at h1
                  simp only [List.length_append, List.length_map, List.length_cons] at h1
                  omega
                obtain ⟨zc, hzc⟩ : ∃ zc : Array Value, zc = zeroC false := ⟨_, rfl⟩
                have ZZ : Hid (zc.size = 11) := by show _ = _; rw [hzc]; rfl
                have ZO : Hid ((zc.all fun x => x.oneCell') = true) := by show _ = _; rw [hzc]; kernel_rfl
                have ZB : Hid ((Tryd.prog).built 48 [(1, .bool false)] = some zc) := by show _ = _; rw [hzc]; exact built_zero _
                have ZC := Lib.hid hzc
                clear hpc hzc
                go_wp2_with (first
                  | (refine wpList_load_arr rfl _ _ rfl g 4 rfl pc _ (by with_reducible exact RG.out) Tryd.underlying36 rfl (by rw [PZ.out]; kernel_rfl) ?_)
                  | (refine slice1 (cs := pc) (s := 5) rfl rfl rfl PZ.out Tryd.underlying29 HI0.out HZ0.out HZ1.out (by decide) ?_)
                  | (at_builtin; go_must (refine app1 (cs := pc) (n := L.length) (xs := reqsV L) (base := 0) rfl rfl rfl rfl Tryd.underlying29 HI0.out HZ0.out HZ1.out HZ2.out rfl (by decide) (hF.out.held.below BL.out).row (heap_alloc_new _ _) PZ.out PO.out LB.out (by have h_ := LB.out; omega) (Nat.zero_le _) ?_; intro v5 w5 ho hg hx; rw [PL_.out] at ho; obtain ⟨A5, c5, hv5, _, _⟩ := ownR_form ho; subst hv5; have Q := hF.out.put false BL.out ho hg hx; have R5 := Lib.hid Q.1; have FSP := Q.2; rw [← ZC.out] at FSP; have FSP := Lib.hid FSP; have x8 : w5.cell? ⟨g, 8, none⟩ = some (.bool false) := (by rw [cell_of_row w5 g 8 _ _ _ Q.1]; show some (Value.bool R.cl) = _; rw [hcl]); clear ho hg hx Q x0 x10))
                  | (refine wpList_build_to rfl _ _ rfl [(1, .bool false)] rfl _ (by with_reducible exact ZB.out) ?_)
                  | (refine wpList_store_row rfl _ _ _ rfl g zc rfl rfl 48 _ (by with_reducible exact R5.out) (by rw [ZZ.out]; kernel_rfl) (by rw [ZZ.out]; rfl) ZO.out ?_))
                go_roundg 0
                case rel => exact .inr ⟨rfl, FSP⟩
                case measure => omega
              · have x_ := hF.out.par.at_
                obtain ⟨x0, _, _, _, _, _, _, _, _, _, x10⟩ := x_
                obtain ⟨Ae, ce, he, _, _⟩ := ownR_form hF.out.held.row
                subst he
                have GG : Hid (FI g W H B w s l (k + 1) (.slice Ae (L ++ [(reqOf R, H2, B2)]).length ce) wr) := ⟨zeroP false, _, _, _, _, hF.out, ok_zero false, by simp [zeroP], by rw [EQ.out]; simp⟩
                have x0' : wr.cell? ⟨g, 0, none⟩ = some (.int .i64 0) := x0
                have x10' : wr.cell? ⟨g, 10, none⟩ = some (.int .i64 0) := x10
                clear x0 x10
                go_wp2
                go_roundw
                case rel => exact ⟨k + 1, HK.out, by go_num, rfl, GG⟩
                case measure => simp [intOf]; omega
          · rw [hcl] at eq
            simp only [if_true] at eq
            have EQ := Lib.hid eq
            clear eq
            go_wp2_with (go_at_call 17; go_must (refine T1.out.mono ?_; rintro e w1 ⟨rfl, W2, H2, B2, P1, S1⟩; have F1 := Lib.hid (HF.out.step P1 S1); clear P1 S1))
            go_loopw [6] (fun d wx => d = .slice Ad L.length cd ∧ Hid (FS g W H B w R (.slice Ad L.length cd) L W2 H2 B2 wx)) (fun _ _ => 0)
            case atStart => exact ⟨rfl, F1⟩
            case round =>
              obtain ⟨rfl, hF⟩ := hrel
              have x_ := hF.out.par.at_
              obtain ⟨x0, _, _, _, _, _, _, _, _, _, x10⟩ := x_
              rw [h9] at x0
              rw [hl0] at x10
              obtain ⟨A6, c6, hH6, _, _⟩ := ownR_form hF.out.par.hs
              obtain ⟨A7, c7, hB7, _, _⟩ := own8_form hF.out.par.bd
              subst hH6 hB7
              obtain ⟨pc, hpc⟩ : ∃ pc : Array Value, pc = (reqC (reqOf R, .slice A6 R.hs.length c6, .slice A7 R.bd.length c7)).toArray := ⟨_, rfl⟩
              have PZ : Hid (pc.size = 5) := by show _ = _; rw [hpc]; rfl
              have PO : Hid ((pc.all fun x => x.oneCell') = true) := by show _ = _; rw [hpc]; kernel_rfl
              have PL_ : Hid (pc.toList = reqC (reqOf R, .slice A6 R.hs.length c6, .slice A7 R.bd.length c7)) := by show _ = _; rw [hpc]
              have RG : Hid (wr.rangeAt g 4 pc.toList) := by show World.rangeAt _ _ _ _; rw [hpc, List.toList_toArray]; exact req_row hF.out.par
              have BL : Hid (Below wr.heap.size wr (wr.alloc (.cells pc 36))) := (Below.refl _ wr).alloc (Nat.le_refl _) _
              have LB : Hid ((L.length + 1) * 88 ≤ 140737488355328) := by
                show _ ≤ _
                have h1 := HN.out
                rw [EQ.out] at h1
                simp only [List.length_append, List.length_map, List.length_cons, List.length_nil] at h1
                omega
              obtain ⟨zc, hzc⟩ : ∃ zc : Array Value, zc = zeroC true := ⟨_, rfl⟩
              have ZZ : Hid (zc.size = 11) := by show _ = _; rw [hzc]; rfl
              have ZO : Hid ((zc.all fun x => x.oneCell') = true) := by show _ = _; rw [hzc]; kernel_rfl
              have ZB : Hid ((Tryd.prog).built 48 [(1, .bool true)] = some zc) := by show _ = _; rw [hzc]; exact built_zero _
              have ZC := Lib.hid hzc
              clear hpc hzc
              go_wp2_with (first
                | (refine wpList_load_arr rfl _ _ rfl g 4 rfl pc _ (by with_reducible exact RG.out) Tryd.underlying36 rfl (by rw [PZ.out]; kernel_rfl) ?_)
                | (refine slice1 (cs := pc) (s := 5) rfl rfl rfl PZ.out Tryd.underlying29 HI0.out HZ0.out HZ1.out (by decide) ?_)
                | (at_builtin; go_must (refine app1 (cs := pc) (n := L.length) (xs := reqsV L) (base := 0) rfl rfl rfl rfl Tryd.underlying29 HI0.out HZ0.out HZ1.out HZ2.out rfl (by decide) (hF.out.held.below BL.out).row (heap_alloc_new _ _) PZ.out PO.out LB.out (by have h_ := LB.out; omega) (Nat.zero_le _) ?_; intro v5 w5 ho hg hx; rw [PL_.out] at ho; obtain ⟨A5, c5, hv5, _, _⟩ := ownR_form ho; subst hv5; have Q := hF.out.put true BL.out ho hg hx; have R5 := Lib.hid Q.1; have FSP := Q.2; rw [← ZC.out] at FSP; have FSP := Lib.hid FSP; have x8 : w5.cell? ⟨g, 8, none⟩ = some (.bool true) := (by rw [cell_of_row w5 g 8 _ _ _ Q.1]; show some (Value.bool R.cl) = _; rw [hcl]); clear ho hg hx Q x0 x10))
                | (refine wpList_build_to rfl _ _ rfl [(1, .bool true)] rfl _ (by with_reducible exact ZB.out) ?_)
                | (refine wpList_store_row rfl _ _ _ rfl g zc rfl rfl 48 _ (by with_reducible exact R5.out) (by rw [ZZ.out]; kernel_rfl) (by rw [ZZ.out]; rfl) ZO.out ?_))
              try rw [Exit.noGoto_ret]
              go_ret2
              exact FeedPost.intro EQ.out rfl (by simp) FSP.out
        · rw [if_neg hwh] at eq
          have EQ := Lib.hid eq
          have NW := Lib.hid hwh
          clear eq hwh
          go_wp2_with (go_at_call 17; go_must (refine T1.out.mono ?_; rintro e w1 ⟨rfl, W2, H2, B2, P1, S1⟩; have F1 := Lib.hid (HF.out.step P1 S1); clear P1 S1))
          go_loopw [6] (fun d wx => d = .slice Ad L.length cd ∧ Hid (FS g W H B w R (.slice Ad L.length cd) L W2 H2 B2 wx)) (fun _ _ => 0)
          case atStart => exact ⟨rfl, F1⟩
          case round =>
            obtain ⟨rfl, hF⟩ := hrel
            have x_ := hF.out.par.at_
            obtain ⟨x0, _, _, _, _, _, _, _, _, _, x10⟩ := x_
            have GG : Hid (FI g W H B w s l (k + 1) (.slice Ad L.length cd) wr) := ⟨R, L, W2, H2, B2, hF.out, OK1.out, NW.out, EQ.out⟩
            obtain ⟨s9, hs9⟩ : ∃ z, z = R.st := ⟨_, rfl⟩
            obtain ⟨lf, hlf⟩ : ∃ z, z = R.lf := ⟨_, rfl⟩
            have nw := NW.out
            rw [← hs9, ← hlf] at nw
            rw [← hs9] at x0
            rw [← hlf] at x10
            clear hs9 hlf
            by_cases h9 : s9 = 9
            · subst h9
              have ql : (lf == 0) = false := by simp at nw; simpa using nw
              clear nw
              go_wp2
              go_roundw
              case rel => exact ⟨k + 1, HK.out, by go_num, rfl, GG⟩
              case measure => simp [intOf]; omega
            · have q9 : (s9 == 9) = false := by simpa using h9
              clear nw h9
              go_wp2
              go_roundw
              case rel => exact ⟨k + 1, HK.out, by go_num, rfl, GG⟩
              case measure => simp [intOf]; omega
      · have qv : (v != 0) = true := by simpa using hv
        rw [if_pos hv] at eq
        have EQ := Lib.hid eq
        clear hv eq
        go_wp2_with (go_at_call 17; go_must (refine T1.out.mono ?_; rintro e w1 ⟨rfl, W2, H2, B2, P1, S1⟩; have F1 := Lib.hid (HF.out.step P1 S1); have x1 := P1.at_.2.1; have y1 := P1.fz 1; have P2 := P1.set (s' := { R with en := true }) 1 (.bool true) rfl rfl rfl rfl; have F2 := Lib.hid (F1.out.step P2.1 P2.2); clear P1 S1 P2))
        try rw [Exit.noGoto_ret]
        go_ret2
        exact FeedPost.intro EQ.out rfl (by simp) F2.out
    · obtain rfl : k = n := by omega
      obtain ⟨s1, L, W1, H1, B1, F, ok, nw, eq⟩ := hO.out
      obtain ⟨Ad, cd, hd, _, _⟩ := ownR_form F.held.row
      subst hd
      rw [List.drop_eq_nil_of_le (by rw [HLN.out]; exact Nat.le_refl _)] at eq
      have EQ := Lib.hid eq
      have HF := Lib.hid F
      clear F ok nw eq hO
      go_wp2
      try rw [Exit.noGoto_ret]
      go_ret2
      exact FeedPost.intro EQ.out rfl (by simp [feedP]) HF.out
end Go.Proofs.YtjichadkonlfpaaDoor
