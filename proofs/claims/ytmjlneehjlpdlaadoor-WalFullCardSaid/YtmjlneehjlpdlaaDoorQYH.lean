/- The texts Y13 of this work, merged by wip/merge.py. No conditions. -/
import Derived.Test.YtmjlneehjlpdlaaDoorQYG
import Derived.Test.YtmjlneehjlpdlaaDoorQAR
import Derived.Test.YtmjlneehjlpdlaaDoorQAU
namespace Go.Proofs.YtmjlneehjlpdlaaDoor
open Go.RowKit
def R12 (w wr : World) (ls : List (List UInt8)) (F : Nat → Value → Nat → Option Addr → Nat → Act) (a : Act) (w' : World) : Prop :=
  ∃ (b36 : Nat) (v38 : Value) (b43 : Nat) (A44 : Option Addr) (c44 : Nat), a = F b36 v38 b43 A44 c44 ∧ Hid (WithV w wr w' A44 c44 ls)
set_option maxRecDepth 100000 in
set_option maxHeartbeats 8000000 in
theorem WalFull_any (A : Option Addr) (c : Nat) (ls : List (List UInt8)) (z : UInt8) (K : List Int) (w : World) (hl : Lists w w.heap.size A ls) (hn : ls.length * 24 ≤ 140737488351232) (hm : ∀ l ∈ ls, l.length ≤ 140737488351232) (hkt : KT w K) :
    Calls Tryd.prog 3 #[.slice A ls.length c, .int .u8 (z.toNat : Int)] w fun e w' => e = .returned (.bool true) ∧ Below w.heap.size w w' := by
  have hz0 : (0 : Int) ≤ (z.toNat : Int) := by omega
  have hz1 : (z.toNat : Int) < 256 := by have := z.toNat_lt; omega
  obtain ⟨N, hN⟩ : ∃ N, N = 64 + z.toNat := ⟨_, rfl⟩
  have hNI : 64 + (z.toNat : Int) = (N : Int) := by omega
  have HNB : Hid (64 ≤ N ∧ N < 320) := by show _ ∧ _; have := z.toNat_lt; omega
  have HL := Lib.hid hl
  have HM := Lib.hid hm
  have HK := Lib.hid hkt
  obtain ⟨n, hn'⟩ : ∃ n, n = ls.length := ⟨_, rfl⟩
  rw [← hn'] at hn ⊢
  have HN' := Lib.hid hn'
  have hnI : (n : Int) ≤ 5864062014806 := by omega
  have hn0 : (0 : Int) ≤ (n : Int) := by omega
  have HNN := Lib.hid hn
  clear hl hm hkt hN hn hn'
  go_enter Tryd.func3, Tryd.ntmps3
  go_wp2_with (first
    | (go_at_call 5; go_must (refine (awake_any K _ HK.out).mono ?_; rintro e w1 ⟨rfl, hb⟩; have HB1 := Lib.hid hb; clear hb))
    | (go_at_call 6; go_must (refine (New_dsk N (by have := HNB.out; omega) (by have := HNB.out; omega) _).mono ?_; rintro e w2 ⟨gd, S, P, od, rfl, hD, hb⟩; have H2 := Lib.hid (And.intro hD hb); have HB2 := Lib.hid (HB1.out.trans (hb.mono HB1.out.size)); clear hD hb))
    | (go_at_call 7; go_must (refine (opened_any H2.out.1 H2.out.2.size K 1 [] (Lay.fresh K N (by have := HNB.out; omega)) (by simp) (by simp; have := HNB.out; omega) (by simp) (HK.out.bel HB2.out)).mono ?_; rintro e w3 ⟨gl, own3, rfl, hL, hb3, ho3⟩; have H3 := Lib.hid (And.intro hL (And.intro (HB2.out.trans (hb3.mono HB2.out.size)) ho3)); clear hL hb3 ho3)))
  have HI0 : Hid (FullI K w w3 gd gl N (.slice none 0 0) []) := ⟨⟨List.replicate N zero64, 1, false, 0, own3, [], w1.heap.size, HB1.out.size, H3.out.1, Lay.fresh K N (by have := HNB.out; omega), by simp, by simp, WantV.nil _ _, fun k hk => by cases hk⟩, H3.out.2.1⟩
  go_loopw [10, 33] (fun v i wr => ∃ (k : Nat) (recs : List (List UInt8)) (Av : Option Addr) (cv : Nat), k ≤ n ∧ i = .int .i64 (k : Int) ∧ v = .slice Av recs.length cv ∧ Hid (FullI K w wr gd gl N (.slice Av recs.length cv) recs)) (fun _ i _ => n - (intOf i).toNat)
  case atStart => exact ⟨0, [], none, 0, Nat.zero_le _, rfl, rfl, HI0.out⟩
  clear HI0
  case round =>
    obtain ⟨k, recs, Av, cv, hk, rfl, rfl, hO⟩ := hrel
    by_cases hlt : k < n
    · have hlt' : (k : Int) < (n : Int) := by omega
      have hk0 : (0 : Int) ≤ (k : Int) := by omega
      obtain ⟨secs, at_, full, f, own, vs, base, hbase, hLG, hLay, hsz, hsN, hW, hWo⟩ := hO.out.ex
      obtain ⟨r, b, off, Ar, cr, hr_, hA, hbb, hcell, hcr, hrd⟩ := HL.out.at_ k (by rw [← HN'.out]; exact hlt)
      subst hA
      have hgr : ls[k]? = some r := by rw [← hr_.out]; exact List.getElem?_eq_getElem _
      have hrl : r.length ≤ 140737488351232 := HM.out r (List.mem_of_getElem? hgr)
      obtain ⟨m, hm⟩ : ∃ m, recs.length = m := ⟨_, rfl⟩
      have hmB : m ≤ 40000 := by rw [← hm]; exact hLay.count (by have := HNB.out; omega)
      have HBW := Lib.hid hO.out.bel
      have HLG := Lib.hid hLG
      have HLAY := Lib.hid hLay
      have HSZ := Lib.hid hsz
      have HSN := Lib.hid hsN
      have HW := Lib.hid hW
      have HWO := Lib.hid hWo
      have HBASE := Lib.hid hbase
      have HRD := Lib.hid hrd
      have HRL := Lib.hid hrl
      have HMB := Lib.hid hmB
      have HMM := Lib.hid hm
      have HLT := Lib.hid hlt
      have hcrI : (r.length : Int) ≤ (cr : Int) := by omega
      have hcrN := Lib.hid hcr
      have CB : Hid (∀ w', Below wr.heap.size wr w' → w'.cell? ⟨b, off + k, none⟩ = some (.slice Ar r.length cr)) := fun w' hw' => ((HBW.out.trans (hw'.mono HBW.out.size)).cell (p := ⟨b, off + k, none⟩) hbb).trans hcell
      rw [hm]
      have RW : Hid (Reads wr wr.heap.size 1 Av m vs ∧ ∀ u ∈ vs, u.oneCell' = true) := ⟨by rw [← hm]; exact Reads.of_own hW.row, hW.one⟩
      have HB0 : Hid (w.heap.size ≤ wr.heap.size) := HBW.out.size
      have CBA : Hid (∀ w', Below w.heap.size w w' → w'.cell? ⟨b, off + k, none⟩ = some (.slice Ar r.length cr)) := fun w' hw' => (hw'.cell (p := ⟨b, off + k, none⟩) hbb).trans hcell
      clear hO hLG hLay hsz hsN hW hWo hbase hrd hrl hmB hm hlt hk hcell hr_ hgr hcr hbb
      go_wp2
      apply AnyC.startBR (fun w' => Below wr.heap.size wr w') (R12 w wr (recs ++ [r]) _) (by kernel_rfl) rfl
      case h =>
        intro w4 hb4
        have HB4 := Lib.hid hb4
        clear hb4
        apply AnyC.take (i := 1) rfl (by kernel_rfl) rfl
        · intro w' hC K hK
          go_wp2
          exact hK
        · rfl
        apply AnyC.take (i := 3) rfl (by kernel_rfl) rfl
        · intro w' hC K hK
          go_wp2
          exact hK
        · rfl
        apply AnyC.take (i := 4) rfl (by kernel_rfl) rfl
        · intro w' hC K hK
          go_wp2
          exact hK
        · rfl
        apply AnyC.take (i := 5) rfl (by kernel_rfl) rfl
        · intro w' hC K hK
          go_wp2
          exact hK
        · rfl
        apply AnyC.take (i := 6) rfl (by kernel_rfl) rfl
        · intro w' hC K hK
          have cc := CB.out w' hC
          go_wp2
          exact hK
        · rfl
        refine AnyC.two (i := 0) (j := 7) rfl rfl (by kernel_rfl) HB4.out ?_ ?_
        · go_wp2
          refine ⟨rfl, ?_⟩
          obtain ⟨b36, hb36⟩ : ∃ b, w4.heap.size = b := ⟨_, rfl⟩
          obtain ⟨w5, hw5⟩ : ∃ x, w4.alloc (.cells #[] 31) = x := ⟨_, rfl⟩
          have O36 : Hid (w5.ownsRow wr.heap.size 31 1 (.slice (some ⟨b36, 0, none⟩) 0 0) 0 []) := by show World.ownsRow _ _ _ _ _ _ _; rw [← hw5, ← hb36]; exact own_empty w4 _ HB4.out.size
          have HBw5 : Hid (Below wr.heap.size wr w5) := by show Below _ _ _; rw [← hw5]; exact HB4.out.alloc HB4.out.size _
          rw [hw5, hb36]
          clear hw5 hb36
          refine AnyC.two (i := 2) (j := 7) rfl rfl (by kernel_rfl) HBw5.out ?_ ?_
          · refine appW rfl rfl rfl rfl O36.out (reads_bel RW.out.1 HBw5.out) RW.out.2 (by have := HMB.out; omega) HBw5.out.size ?_
            intro v38 w6 ho38 hg38 _hv38
            rw [Nat.zero_add, List.nil_append] at ho38
            have O38 := Lib.hid ho38
            have HBw6 : Hid (Below wr.heap.size wr w6) := by show Below _ _ _; exact HBw5.out.grown hg38 HBw5.out.size (fun k_ hk_ => (World.ownsRow.lt O36.out k_ hk_).1)
            clear ho38 hg38 _hv38
            go_wp2
            refine ⟨rfl, ?_⟩
            apply AnyC.solo (i := 7) rfl (by kernel_rfl) HBw6.out
            go_wp2
            refine ⟨rfl, ?_⟩
            obtain ⟨b43, hb43⟩ : ∃ b, w6.heap.size = b := ⟨_, rfl⟩
            obtain ⟨w7, hw7⟩ : ∃ x, w6.alloc (.cells #[.slice Ar r.length cr] 31) = x := ⟨_, rfl⟩
            have R43 : Hid (Reads w7 w7.heap.size 1 (some ⟨b43, 0, none⟩) 1 [.slice Ar r.length cr]) := by show Reads _ _ _ _ _ _; rw [← hw7, ← hb43]; exact reads_one w6 _
            have HBw7 : Hid (Below wr.heap.size wr w7) := by show Below _ _ _; rw [← hw7]; exact HBw6.out.alloc HBw6.out.size _
            have O38 : Hid (w7.ownsRow wr.heap.size 31 1 v38 m vs) := by show World.ownsRow _ _ _ _ _ _ _; rw [← hw7]; exact O38.out.alloc _
            rw [hw7, hb43]
            clear hw7 hb43
            apply AnyC.solo (i := 8) rfl (by kernel_rfl) HBw7.out
            refine appW rfl rfl rfl rfl O38.out R43.out (by simp [Value.oneCell']) (by have := HMB.out; omega) HBw7.out.size ?_
            intro v44 w8 ho44 hg44 _hv44
            have HBw8 : Hid (Below wr.heap.size wr w8) := by show Below _ _ _; exact HBw7.out.grown hg44 HBw7.out.size (fun k_ hk_ => (World.ownsRow.lt O38.out k_ hk_).1)
            obtain ⟨A44, c44, hv44, hWV⟩ := withV_mk HW.out HBW.out HBw8.out ho44 HMM.out HRD.out hcrN.out
            subst hv44
            have HWV := Lib.hid hWV
            clear ho44 hg44 _hv44 hWV
            go_wp2
            refine ⟨rfl, ?_⟩
            apply AnyC.solo (i := 9) rfl (by kernel_rfl) HBw8.out
            go_wp2
            refine ⟨rfl, ?_⟩
            refine AnyC.done HBw8.out (by kernel_rfl) ?_
            exact ⟨b36, v38, b43, A44, c44, rfl, HWV⟩
          · go_wp2
            refine ⟨rfl, ?_⟩
            have O36_ := O36
            obtain ⟨b43, hb43⟩ : ∃ b, w5.heap.size = b := ⟨_, rfl⟩
            obtain ⟨w6, hw6⟩ : ∃ x, w5.alloc (.cells #[.slice Ar r.length cr] 31) = x := ⟨_, rfl⟩
            have R43 : Hid (Reads w6 w6.heap.size 1 (some ⟨b43, 0, none⟩) 1 [.slice Ar r.length cr]) := by show Reads _ _ _ _ _ _; rw [← hw6, ← hb43]; exact reads_one w5 _
            have HBw6 : Hid (Below wr.heap.size wr w6) := by show Below _ _ _; rw [← hw6]; exact HBw5.out.alloc HBw5.out.size _
            have O36 : Hid (w6.ownsRow wr.heap.size 31 1 (.slice (some ⟨b36, 0, none⟩) 0 0) 0 []) := by show World.ownsRow _ _ _ _ _ _ _; rw [← hw6]; exact O36.out.alloc _
            have DJ0 : Hid (b36 < b43) := by show _ < _; rw [← hb43]; exact (World.ownsRow.lt O36_.out b36 rfl).2
            rw [hw6, hb43]
            clear hw6 hb43
            have DJ : Hid (b43 ≠ b36) := by show _ ≠ _; have h_ := DJ0.out; omega
            apply AnyC.solo (i := 2) rfl (by kernel_rfl) HBw6.out
            refine appW rfl rfl rfl rfl O36.out (reads_bel RW.out.1 HBw6.out) RW.out.2 (by have := HMB.out; omega) HBw6.out.size ?_
            intro v38 w7 ho38 hg38 _hv38
            rw [Nat.zero_add, List.nil_append] at ho38
            have O38 := Lib.hid ho38
            have HBw7 : Hid (Below wr.heap.size wr w7) := by show Below _ _ _; exact HBw6.out.grown hg38 HBw6.out.size (fun k_ hk_ => (World.ownsRow.lt O36.out k_ hk_).1)
            have R43 : Hid (Reads w7 w7.heap.size 1 (some ⟨b43, 0, none⟩) 1 [.slice Ar r.length cr]) := keep_R43 R43.out hg38 O36.out DJ.out
            clear ho38 hg38 _hv38
            go_wp2
            refine ⟨rfl, ?_⟩
            apply AnyC.solo (i := 8) rfl (by kernel_rfl) HBw7.out
            refine appW rfl rfl rfl rfl O38.out R43.out (by simp [Value.oneCell']) (by have := HMB.out; omega) HBw7.out.size ?_
            intro v44 w8 ho44 hg44 _hv44
            have HBw8 : Hid (Below wr.heap.size wr w8) := by show Below _ _ _; exact HBw7.out.grown hg44 HBw7.out.size (fun k_ hk_ => (World.ownsRow.lt O38.out k_ hk_).1)
            obtain ⟨A44, c44, hv44, hWV⟩ := withV_mk HW.out HBW.out HBw8.out ho44 HMM.out HRD.out hcrN.out
            subst hv44
            have HWV := Lib.hid hWV
            clear ho44 hg44 _hv44 hWV
            go_wp2
            refine ⟨rfl, ?_⟩
            apply AnyC.solo (i := 9) rfl (by kernel_rfl) HBw8.out
            go_wp2
            refine ⟨rfl, ?_⟩
            refine AnyC.done HBw8.out (by kernel_rfl) ?_
            exact ⟨b36, v38, b43, A44, c44, rfl, HWV⟩
        · go_wp2
          refine ⟨rfl, ?_⟩
          obtain ⟨b43, hb43⟩ : ∃ b, w4.heap.size = b := ⟨_, rfl⟩
          obtain ⟨w5, hw5⟩ : ∃ x, w4.alloc (.cells #[.slice Ar r.length cr] 31) = x := ⟨_, rfl⟩
          have R43 : Hid (Reads w5 w5.heap.size 1 (some ⟨b43, 0, none⟩) 1 [.slice Ar r.length cr]) := by show Reads _ _ _ _ _ _; rw [← hw5, ← hb43]; exact reads_one w4 _
          have HBw5 : Hid (Below wr.heap.size wr w5) := by show Below _ _ _; rw [← hw5]; exact HB4.out.alloc HB4.out.size _
          rw [hw5, hb43]
          clear hw5 hb43
          have HLT5 : Hid (b43 < w5.heap.size) := by obtain ⟨ad_, he_, hb_, _⟩ := R43.out.2 (by omega); cases he_; exact hb_
          apply AnyC.solo (i := 0) rfl (by kernel_rfl) HBw5.out
          go_wp2
          refine ⟨rfl, ?_⟩
          obtain ⟨b36, hb36⟩ : ∃ b, w5.heap.size = b := ⟨_, rfl⟩
          obtain ⟨w6, hw6⟩ : ∃ x, w5.alloc (.cells #[] 31) = x := ⟨_, rfl⟩
          have O36 : Hid (w6.ownsRow wr.heap.size 31 1 (.slice (some ⟨b36, 0, none⟩) 0 0) 0 []) := by show World.ownsRow _ _ _ _ _ _ _; rw [← hw6, ← hb36]; exact own_empty w5 _ HBw5.out.size
          have HBw6 : Hid (Below wr.heap.size wr w6) := by show Below _ _ _; rw [← hw6]; exact HBw5.out.alloc HBw5.out.size _
          have R43 : Hid (Reads w6 w6.heap.size 1 (some ⟨b43, 0, none⟩) 1 [.slice Ar r.length cr]) := by show Reads _ _ _ _ _ _; rw [← hw6]; exact (R43.out.alloc (Nat.le_refl _) _).more (by simp)
          have DJ : Hid (b43 ≠ b36) := by show _ ≠ _; have h_ := HLT5.out; omega
          rw [hw6, hb36]
          clear hw6 hb36
          apply AnyC.solo (i := 2) rfl (by kernel_rfl) HBw6.out
          refine appW rfl rfl rfl rfl O36.out (reads_bel RW.out.1 HBw6.out) RW.out.2 (by have := HMB.out; omega) HBw6.out.size ?_
          intro v38 w7 ho38 hg38 _hv38
          rw [Nat.zero_add, List.nil_append] at ho38
          have O38 := Lib.hid ho38
          have HBw7 : Hid (Below wr.heap.size wr w7) := by show Below _ _ _; exact HBw6.out.grown hg38 HBw6.out.size (fun k_ hk_ => (World.ownsRow.lt O36.out k_ hk_).1)
          have R43 : Hid (Reads w7 w7.heap.size 1 (some ⟨b43, 0, none⟩) 1 [.slice Ar r.length cr]) := keep_R43 R43.out hg38 O36.out DJ.out
          clear ho38 hg38 _hv38
          go_wp2
          refine ⟨rfl, ?_⟩
          apply AnyC.solo (i := 8) rfl (by kernel_rfl) HBw7.out
          refine appW rfl rfl rfl rfl O38.out R43.out (by simp [Value.oneCell']) (by have := HMB.out; omega) HBw7.out.size ?_
          intro v44 w8 ho44 hg44 _hv44
          have HBw8 : Hid (Below wr.heap.size wr w8) := by show Below _ _ _; exact HBw7.out.grown hg44 HBw7.out.size (fun k_ hk_ => (World.ownsRow.lt O38.out k_ hk_).1)
          obtain ⟨A44, c44, hv44, hWV⟩ := withV_mk HW.out HBW.out HBw8.out ho44 HMM.out HRD.out hcrN.out
          subst hv44
          have HWV := Lib.hid hWV
          clear ho44 hg44 _hv44 hWV
          go_wp2
          refine ⟨rfl, ?_⟩
          apply AnyC.solo (i := 9) rfl (by kernel_rfl) HBw8.out
          go_wp2
          refine ⟨rfl, ?_⟩
          refine AnyC.done HBw8.out (by kernel_rfl) ?_
          exact ⟨b36, v38, b43, A44, c44, rfl, HWV⟩
      case hR =>
        intro a w5 hR
        obtain ⟨b36, v38, b43, Aw, cw, rfl, HWV⟩ := hR
        obtain ⟨vs2, hWW⟩ := HWV.out.ex
        have hl2 : (recs ++ [r]).length = m + 1 := by rw [List.length_append, HMM.out]; rfl
        rw [hl2] at hWW
        have HWW := Lib.hid hWW
        have HNW : Hid (∀ k, (Value.slice Aw (m + 1) cw).ownBlock = some k → wr.heap.size ≤ k ∧ k < w5.heap.size) := by show ∀ _, _; rw [← hl2]; exact HWV.out.new
        clear hWW hl2
        obtain ⟨q, hq⟩ : ∃ q, decide (k % 3 = 2) = q := ⟨_, rfl⟩
        have hqI : ((k : Int) % 3 == 2) = q := by rw [← hq, Bool.eq_iff_iff]; simp; omega
        have hqn : ((k : Int) % 3 != 2) = !q := by rw [bne, hqI]
        clear hq
        have CBW : Hid (∀ w', Below w.heap.size w w' → w'.cell? ⟨b, off + k, none⟩ = some (.slice Ar r.length cr)) := CBA
        have HOB : Hid (∀ k, own k → base ≤ k ∧ k < wr.heap.size) := by obtain ⟨_, _, _, _, _, hx⟩ := HLG.out; exact hx.bnd
        have HAR : Hid (0 < r.length → ∀ ad, Ar = some ad → ∀ (w6 : World) (own6 : Nat → Prop), Below w.heap.size w w6 → (∀ k_, own6 k_ → own k_ ∨ w5.heap.size ≤ k_) → ad.block < w6.heap.size ∧ ¬ own6 ad.block) := by
          show _ → _
          intro h0 ad e w6 own6 hb6 hs6
          obtain ⟨ad', e', hlt', _⟩ := HRD.out.2 h0
          rw [e] at e'
          cases e'
          refine ⟨Nat.lt_of_lt_of_le hlt' hb6.size, fun h_ => ?_⟩
          rcases hs6 _ h_ with h1 | h1
          · have h2 := (HOB.out _ h1).1
            have h3 := HBASE.out
            omega
          · have h2 := HBW.out.size
            have h3 := HWV.out.bel.size
            omega
        have OLD : Hid (∀ w', Turns own w5 w' → WantV w w' (.slice Av m cv) recs vs) := by
          show ∀ _, _
          intro w' hT
          have h1 := HW.out
          rw [HMM.out] at h1
          refine h1.keep fun k_ hk_ => ?_
          have h2 := (World.ownsRow.lt h1.row k_ hk_).2
          have h3 := HWO.out k_ (by rw [HMM.out]; exact hk_)
          exact (hT.block k_ (Nat.lt_of_lt_of_le h2 HWV.out.bel.size) h3).trans (HWV.out.bel.block k_ h2)
        have NEW : Hid (∀ w', Turns own w5 w' → WantV w w' (.slice Aw (m + 1) cw) (recs ++ [r]) vs2) := by
          show ∀ _, _
          intro w' hT
          refine HWW.out.keep fun k_ hk_ => ?_
          have h2 := HNW.out k_ hk_
          exact hT.block k_ h2.2 (fun h_ => by have := (HOB.out k_ h_).2; omega)
        have OLDN : Hid (∀ k_, (Value.slice Av m cv).ownBlock = some k_ → own k_ ∨ w5.heap.size ≤ k_ → False) := by
          show ∀ _, _
          intro k_ hk_ h_
          rcases h_ with h_ | h_
          · exact HWO.out k_ (by rw [HMM.out]; exact hk_) h_
          · have h1 := HW.out
            rw [HMM.out] at h1
            have h2 := (World.ownsRow.lt h1.row k_ hk_).2
            have h3 := HWV.out.bel.size
            omega
        have NEWN : Hid (∀ k_, (Value.slice Aw (m + 1) cw).ownBlock = some k_ → own k_ ∨ w5.heap.size ≤ k_ → False) := by
          show ∀ _, _
          intro k_ hk_ h_
          have h2 := HNW.out k_ hk_
          rcases h_ with h_ | h_
          · have h3 := (HOB.out k_ h_).2; omega
          · omega
        have HAT : Hid (at_ ≤ 65536) := by show _ ≤ _; have h1 := HLAY.out.fit; have h2 := HSN.out; have h3 := HNB.out; omega
        have cc5 := CBW.out w5 (HBW.out.trans (HWV.out.bel.mono HBW.out.size))
        by_cases c1 : 65536 < r.length
        · have HV : Hid (appV K secs q at_ recs r = (6, secs, at_, recs)) := by show _ = _; unfold appV; rw [if_pos c1]
          have hd : decide ((r.length : Int) ≤ 65536) = false := by simp; omega
          clear c1
          have RM : Hid ((recs).length = m) := by show _ = _; exact HMM.out
          have RLEN : Hid (recs.length ≤ 1000000) := by show _ ≤ _; rw [HMM.out]; have := HMB.out; omega
          have RSZ := HSZ
          go_wp2_with (first
            | (go_at_call 8; go_must (refine (SetFull_lg (HLG.out.below HWV.out.bel) q).mono ?_; rintro e w6 ⟨rfl, own6, hL6, hT6, hO6⟩; have H6 := Lib.hid (And.intro hL6 (And.intro hT6 hO6)); have HB6 : Hid (Below w.heap.size w w6) := (by show Below _ _ _; exact Turns.bel hT6 (HLG.out.below HWV.out.bel) HBASE.out (HBW.out.trans (HWV.out.bel.mono HBW.out.size))); have cc6 := CBW.out w6 HB6.out; clear hL6 hT6 hO6))
            | (go_at_call 9; go_must (refine (Append_any H6.out.1 K Ar r.length cr r ((HRD.out.below HB6.out).more HB6.out.size) (fun h0_ ad e_ => HAR.out h0_ ad e_ w6 own6 HB6.out H6.out.2.2) hcrN.out (by rw [HMM.out]; have := HMB.out; omega) HAT.out (HK.out.bel HB6.out)).mono ?_; rintro e w7 ⟨f7, rfl, hA7⟩; rw [HV.out] at hA7 ⊢; have hA57 := LAfter.trans H6.out.1 H6.out.2.1 H6.out.2.2 hA7; have HB7 : Hid (Below w.heap.size w w7) := (by obtain ⟨_, _, hT7, _⟩ := hA7; exact Turns.bel hT7 H6.out.1 HBASE.out HB6.out); have H57 := Lib.hid hA57; have cc7 := CBW.out w7 HB7.out; have W1 := Lib.hid (OLD.out w7 (by obtain ⟨_, _, hT7, _⟩ := hA57; exact hT7)); have W2 := Lib.hid (NEW.out w7 (by obtain ⟨_, _, hT7, _⟩ := hA57; exact hT7)); clear hA7 hA57))
            | (go_at_call 12; go_must (obtain ⟨own7, hL7, hT7, hO7⟩ := H57.out; refine (Records_any hL7 RLEN.out RSZ.out).mono ?_; rintro e w8 ⟨v8, rfl, hv8, hb8⟩; obtain ⟨A8, c8, rfl, _, hls8⟩ := hv8.lists; have H7 := Lib.hid (And.intro hL7 (And.intro hT7 hO7)); have H8 := Lib.hid (And.intro hls8 hb8); clear hv8 hb8 hls8 hL7 hT7 hO7; rw [RM.out]))
            | (go_at_call 11; go_must (refine (same_eq A8 Av c8 cv (recs) (m) RM.out w8 H8.out.1 (W1.out.lists HB7.out |>.below H8.out.2 |>.more H8.out.2.size) (by have := RLEN.out; omega)).mono ?_; rintro e w9 ⟨rfl, hb9⟩; have H9 := Lib.hid (And.intro (H8.out.2.trans (hb9.mono H8.out.2.size)) (HB7.out.trans ((H8.out.2.trans (hb9.mono H8.out.2.size)).mono HB7.out.size))); clear hb9)))
          go_roundw
          case rel =>
            refine ⟨k + 1, recs, Av, cv, HLT.out, by go_num, by rw [RM.out], ⟨secs, at_, _, f7, own7, vs, base, HBASE.out, H7.out.1.below H9.out.1, HLAY.out, HSZ.out, HSN.out, ?_, ?_⟩, H9.out.2⟩
            · rw [RM.out]; exact W1.out.keep (fun k_ hk_ => H9.out.1.block k_ (World.ownsRow.lt W1.out.row k_ hk_).2)
            · rw [RM.out]; exact fun k_ hk_ h_ => OLDN.out k_ hk_ (H7.out.2.2 k_ h_)
          case measure => simp [intOf]; omega
        · have HC1 := Lib.hid c1
          clear c1
          cases q with
          | true =>
            have HV : Hid (appV K secs true at_ recs r = (5, secs, at_, recs)) := by show _ = _; unfold appV; rw [if_neg (by have := HC1.out; omega), if_pos (.inr rfl)]
            have hd9 : (!true) = false := rfl
            have RM : Hid ((recs).length = m) := by show _ = _; exact HMM.out
            have RLEN : Hid (recs.length ≤ 1000000) := by show _ ≤ _; rw [HMM.out]; have := HMB.out; omega
            have RSZ := HSZ
            go_wp2_with (first
              | (go_at_call 8; go_must (refine (SetFull_lg (HLG.out.below HWV.out.bel) true).mono ?_; rintro e w6 ⟨rfl, own6, hL6, hT6, hO6⟩; have H6 := Lib.hid (And.intro hL6 (And.intro hT6 hO6)); have HB6 : Hid (Below w.heap.size w w6) := (by show Below _ _ _; exact Turns.bel hT6 (HLG.out.below HWV.out.bel) HBASE.out (HBW.out.trans (HWV.out.bel.mono HBW.out.size))); have cc6 := CBW.out w6 HB6.out; clear hL6 hT6 hO6))
              | (go_at_call 9; go_must (refine (Append_any H6.out.1 K Ar r.length cr r ((HRD.out.below HB6.out).more HB6.out.size) (fun h0_ ad e_ => HAR.out h0_ ad e_ w6 own6 HB6.out H6.out.2.2) hcrN.out (by rw [HMM.out]; have := HMB.out; omega) HAT.out (HK.out.bel HB6.out)).mono ?_; rintro e w7 ⟨f7, rfl, hA7⟩; rw [HV.out] at hA7 ⊢; have hA57 := LAfter.trans H6.out.1 H6.out.2.1 H6.out.2.2 hA7; have HB7 : Hid (Below w.heap.size w w7) := (by obtain ⟨_, _, hT7, _⟩ := hA7; exact Turns.bel hT7 H6.out.1 HBASE.out HB6.out); have H57 := Lib.hid hA57; have cc7 := CBW.out w7 HB7.out; have W1 := Lib.hid (OLD.out w7 (by obtain ⟨_, _, hT7, _⟩ := hA57; exact hT7)); have W2 := Lib.hid (NEW.out w7 (by obtain ⟨_, _, hT7, _⟩ := hA57; exact hT7)); clear hA7 hA57))
              | (go_at_call 12; go_must (obtain ⟨own7, hL7, hT7, hO7⟩ := H57.out; refine (Records_any hL7 RLEN.out RSZ.out).mono ?_; rintro e w8 ⟨v8, rfl, hv8, hb8⟩; obtain ⟨A8, c8, rfl, _, hls8⟩ := hv8.lists; have H7 := Lib.hid (And.intro hL7 (And.intro hT7 hO7)); have H8 := Lib.hid (And.intro hls8 hb8); clear hv8 hb8 hls8 hL7 hT7 hO7; rw [RM.out]))
              | (go_at_call 11; go_must (refine (same_eq A8 Av c8 cv (recs) (m) RM.out w8 H8.out.1 (W1.out.lists HB7.out |>.below H8.out.2 |>.more H8.out.2.size) (by have := RLEN.out; omega)).mono ?_; rintro e w9 ⟨rfl, hb9⟩; have H9 := Lib.hid (And.intro (H8.out.2.trans (hb9.mono H8.out.2.size)) (HB7.out.trans ((H8.out.2.trans (hb9.mono H8.out.2.size)).mono HB7.out.size))); clear hb9)))
            go_roundw
            case rel =>
              refine ⟨k + 1, recs, Av, cv, HLT.out, by go_num, by rw [RM.out], ⟨secs, at_, _, f7, own7, vs, base, HBASE.out, H7.out.1.below H9.out.1, HLAY.out, HSZ.out, HSN.out, ?_, ?_⟩, H9.out.2⟩
              · rw [RM.out]; exact W1.out.keep (fun k_ hk_ => H9.out.1.block k_ (World.ownsRow.lt W1.out.row k_ hk_).2)
              · rw [RM.out]; exact fun k_ hk_ h_ => OLDN.out k_ hk_ (H7.out.2.2 k_ h_)
            case measure => simp [intOf]; omega
          | false =>
            by_cases c2 : secs.length / 2 < at_ + secsN r.length ∨ (false : Bool) = true
            · have HV : Hid (appV K secs false at_ recs r = (5, secs, at_, recs)) := by show _ = _; unfold appV; rw [if_neg (by have := HC1.out; omega), if_pos c2]
              have NOROOM : Hid (decide ((needN (recs ++ [r]) : Int) ≤ ((N : Int) / 2 - 8) * 32) = false) := by show _ = _; rw [← HSN.out]; exact no_room HLAY.out (c2.resolve_right (by simp))
              have NEED : Hid (needN (recs ++ [r]) ≤ 1152921504606846976) := by show _ ≤ _; rw [needN_snoc]; have h1 := HLAY.out.need (by have := HSN.out; have := HNB.out; omega) HSZ.out; have h2 := HC1.out; omega
              clear c2
              have RM : Hid ((recs).length = m) := by show _ = _; exact HMM.out
              have RLEN : Hid (recs.length ≤ 1000000) := by show _ ≤ _; rw [HMM.out]; have := HMB.out; omega
              have RSZ := HSZ
              go_wp2_with (first
                | (go_at_call 8; go_must (refine (SetFull_lg (HLG.out.below HWV.out.bel) false).mono ?_; rintro e w6 ⟨rfl, own6, hL6, hT6, hO6⟩; have H6 := Lib.hid (And.intro hL6 (And.intro hT6 hO6)); have HB6 : Hid (Below w.heap.size w w6) := (by show Below _ _ _; exact Turns.bel hT6 (HLG.out.below HWV.out.bel) HBASE.out (HBW.out.trans (HWV.out.bel.mono HBW.out.size))); have cc6 := CBW.out w6 HB6.out; clear hL6 hT6 hO6))
                | (go_at_call 9; go_must (refine (Append_any H6.out.1 K Ar r.length cr r ((HRD.out.below HB6.out).more HB6.out.size) (fun h0_ ad e_ => HAR.out h0_ ad e_ w6 own6 HB6.out H6.out.2.2) hcrN.out (by rw [HMM.out]; have := HMB.out; omega) HAT.out (HK.out.bel HB6.out)).mono ?_; rintro e w7 ⟨f7, rfl, hA7⟩; rw [HV.out] at hA7 ⊢; have hA57 := LAfter.trans H6.out.1 H6.out.2.1 H6.out.2.2 hA7; have HB7 : Hid (Below w.heap.size w w7) := (by obtain ⟨_, _, hT7, _⟩ := hA7; exact Turns.bel hT7 H6.out.1 HBASE.out HB6.out); have H57 := Lib.hid hA57; have cc7 := CBW.out w7 HB7.out; have W1 := Lib.hid (OLD.out w7 (by obtain ⟨_, _, hT7, _⟩ := hA57; exact hT7)); have W2 := Lib.hid (NEW.out w7 (by obtain ⟨_, _, hT7, _⟩ := hA57; exact hT7)); clear hA7 hA57))
                | (go_at_call 10; go_must (refine (room_any Aw cw (recs ++ [r]) (m + 1) N w7 (W2.out.lists HB7.out) (by rw [List.length_append, HMM.out]; rfl) (by have := HNB.out; omega) NEED.out).mono ?_; rintro e w_ ⟨rfl, hw_⟩; have hw_ := hw_.symm; subst hw_; rw [NOROOM.out]))
                | (go_at_call 12; go_must (obtain ⟨own7, hL7, hT7, hO7⟩ := H57.out; refine (Records_any hL7 RLEN.out RSZ.out).mono ?_; rintro e w8 ⟨v8, rfl, hv8, hb8⟩; obtain ⟨A8, c8, rfl, _, hls8⟩ := hv8.lists; have H7 := Lib.hid (And.intro hL7 (And.intro hT7 hO7)); have H8 := Lib.hid (And.intro hls8 hb8); clear hv8 hb8 hls8 hL7 hT7 hO7; rw [RM.out]))
                | (go_at_call 11; go_must (refine (same_eq A8 Av c8 cv (recs) (m) RM.out w8 H8.out.1 (W1.out.lists HB7.out |>.below H8.out.2 |>.more H8.out.2.size) (by have := RLEN.out; omega)).mono ?_; rintro e w9 ⟨rfl, hb9⟩; have H9 := Lib.hid (And.intro (H8.out.2.trans (hb9.mono H8.out.2.size)) (HB7.out.trans ((H8.out.2.trans (hb9.mono H8.out.2.size)).mono HB7.out.size))); clear hb9)))
              go_roundw
              case rel =>
                refine ⟨k + 1, recs, Av, cv, HLT.out, by go_num, by rw [RM.out], ⟨secs, at_, _, f7, own7, vs, base, HBASE.out, H7.out.1.below H9.out.1, HLAY.out, HSZ.out, HSN.out, ?_, ?_⟩, H9.out.2⟩
                · rw [RM.out]; exact W1.out.keep (fun k_ hk_ => H9.out.1.block k_ (World.ownsRow.lt W1.out.row k_ hk_).2)
                · rw [RM.out]; exact fun k_ hk_ h_ => OLDN.out k_ hk_ (H7.out.2.2 k_ h_)
              case measure => simp [intOf]; omega
            · have HV : Hid (appV K secs false at_ recs r = (0, syncAll secs (placeL at_ (frameS K recs.length r)), at_ + secsN r.length, recs ++ [r])) := by show _ = _; unfold appV; rw [if_neg (by have := HC1.out; omega), if_neg c2]
              have HLY2 : Hid (Lay K (syncAll secs (placeL at_ (frameS K recs.length r))) (at_ + secsN r.length) (recs ++ [r])) := HLAY.out.push r (by simp at c2; omega)
              have HSN2 : Hid ((syncAll secs (placeL at_ (frameS K recs.length r))).length = N) := by show _ = _; rw [syncAll_length]; exact HSN.out
              have HRZ : Hid (r.length ≤ 65536) := by show _ ≤ _; have := HC1.out; omega
              clear c2
              have RM : Hid ((recs ++ [r]).length = m + 1) := by show _ = _; rw [List.length_append, HMM.out]; rfl
              have RLEN : Hid ((recs ++ [r]).length ≤ 1000000) := by show _ ≤ _; rw [List.length_append, HMM.out]; have := HMB.out; simp; omega
              have RSZ : Hid (∀ x ∈ recs ++ [r], x.length ≤ 65536) := by
                show ∀ _, _
                intro x hx
                rcases List.mem_append.1 hx with h_ | h_
                · exact HSZ.out x h_
                · simp at h_; subst h_; exact HRZ.out
              go_wp2_with (first
                | (go_at_call 8; go_must (refine (SetFull_lg (HLG.out.below HWV.out.bel) false).mono ?_; rintro e w6 ⟨rfl, own6, hL6, hT6, hO6⟩; have H6 := Lib.hid (And.intro hL6 (And.intro hT6 hO6)); have HB6 : Hid (Below w.heap.size w w6) := (by show Below _ _ _; exact Turns.bel hT6 (HLG.out.below HWV.out.bel) HBASE.out (HBW.out.trans (HWV.out.bel.mono HBW.out.size))); have cc6 := CBW.out w6 HB6.out; clear hL6 hT6 hO6))
                | (go_at_call 9; go_must (refine (Append_any H6.out.1 K Ar r.length cr r ((HRD.out.below HB6.out).more HB6.out.size) (fun h0_ ad e_ => HAR.out h0_ ad e_ w6 own6 HB6.out H6.out.2.2) hcrN.out (by rw [HMM.out]; have := HMB.out; omega) HAT.out (HK.out.bel HB6.out)).mono ?_; rintro e w7 ⟨f7, rfl, hA7⟩; rw [HV.out] at hA7 ⊢; have hA57 := LAfter.trans H6.out.1 H6.out.2.1 H6.out.2.2 hA7; have HB7 : Hid (Below w.heap.size w w7) := (by obtain ⟨_, _, hT7, _⟩ := hA7; exact Turns.bel hT7 H6.out.1 HBASE.out HB6.out); have H57 := Lib.hid hA57; have cc7 := CBW.out w7 HB7.out; have W1 := Lib.hid (OLD.out w7 (by obtain ⟨_, _, hT7, _⟩ := hA57; exact hT7)); have W2 := Lib.hid (NEW.out w7 (by obtain ⟨_, _, hT7, _⟩ := hA57; exact hT7)); clear hA7 hA57))
                | (go_at_call 12; go_must (obtain ⟨own7, hL7, hT7, hO7⟩ := H57.out; refine (Records_any hL7 RLEN.out RSZ.out).mono ?_; rintro e w8 ⟨v8, rfl, hv8, hb8⟩; obtain ⟨A8, c8, rfl, _, hls8⟩ := hv8.lists; have H7 := Lib.hid (And.intro hL7 (And.intro hT7 hO7)); have H8 := Lib.hid (And.intro hls8 hb8); clear hv8 hb8 hls8 hL7 hT7 hO7; rw [RM.out]))
                | (go_at_call 11; go_must (refine (same_eq A8 Aw c8 cw (recs ++ [r]) (m + 1) RM.out w8 H8.out.1 (W2.out.lists HB7.out |>.below H8.out.2 |>.more H8.out.2.size) (by have := RLEN.out; omega)).mono ?_; rintro e w9 ⟨rfl, hb9⟩; have H9 := Lib.hid (And.intro (H8.out.2.trans (hb9.mono H8.out.2.size)) (HB7.out.trans ((H8.out.2.trans (hb9.mono H8.out.2.size)).mono HB7.out.size))); clear hb9)))
              go_roundw
              case rel =>
                refine ⟨k + 1, recs ++ [r], Aw, cw, HLT.out, by go_num, by rw [RM.out], ⟨_, _, _, f7, own7, vs2, base, HBASE.out, H7.out.1.below H9.out.1, HLY2.out, RSZ.out, HSN2.out, ?_, ?_⟩, H9.out.2⟩
                · rw [RM.out]; exact W2.out.keep (fun k_ hk_ => H9.out.1.block k_ (World.ownsRow.lt W2.out.row k_ hk_).2)
                · rw [RM.out]; exact fun k_ hk_ h_ => NEWN.out k_ hk_ (H7.out.2.2 k_ h_)
              case measure => simp [intOf]; omega
    · have hkn : k = n := by omega
      have hd : decide (k < n) = false := by simp; omega
      obtain ⟨secs, at_, full, f, own, vs, base, hbase, hLG, hLay, hsz, hsN, hW, hWo⟩ := hO.out.ex
      obtain ⟨m, hm⟩ : ∃ m, recs.length = m := ⟨_, rfl⟩
      have hmB : m ≤ 40000 := by rw [← hm]; exact hLay.count (by have := HNB.out; omega)
      obtain ⟨od, S, P, rv, vs0, hx⟩ := hLG
      have HX := Lib.hid hx
      have HBW := Lib.hid hO.out.bel
      have HLAY := Lib.hid hLay
      have HSZ := Lib.hid hsz
      have HSN := Lib.hid hsN
      have HMB := Lib.hid hmB
      have HMM := Lib.hid hm
      have hW1 := hW
      rw [hm] at hW1
      have HW := Lib.hid hW1
      rw [hm]
      clear hO hx hLay hsz hsN hmB hm hW hW1 hWo hbase hkn hlt hk
      go_wp2_with (first
        | (go_at_call 7; go_must (refine (opened_any HX.out.dsk (by have h_ := HX.out.bnd gl HX.out.ogl; omega) K at_ recs HLAY.out HSZ.out (by have := HSN.out; have := HNB.out; omega) (by rw [HMM.out]; have := HMB.out; omega) (HK.out.bel HBW.out)).mono ?_; rintro e w5 ⟨gl5, own5, rfl, hL5, hb5, _⟩; have HB5 := Lib.hid hb5; have HL5 := Lib.hid hL5; clear hb5 hL5))
        | (go_at_call 12; go_must (refine (Records_any HL5.out (by rw [HMM.out]; have := HMB.out; omega) HSZ.out).mono ?_; rintro e w8 ⟨v8, rfl, hv8, hb8⟩; obtain ⟨A8, c8, rfl, _, hls8⟩ := hv8.lists; have H8 := Lib.hid (And.intro hls8 hb8); clear hv8 hb8 hls8; rw [HMM.out]))
        | (go_at_call 11; go_must (refine (same_eq A8 Av c8 cv recs m HMM.out w8 H8.out.1 (((HW.out.lists HBW.out).below (HB5.out.trans (H8.out.2.mono HB5.out.size))).more (Nat.le_trans HB5.out.size H8.out.2.size)) (by rw [HMM.out]; have := HMB.out; omega)).mono ?_; rintro e w9 ⟨rfl, hb9⟩; have H9 := Lib.hid (HBW.out.trans ((HB5.out.trans ((H8.out.2.trans (hb9.mono H8.out.2.size)).mono HB5.out.size)).mono HBW.out.size)); clear hb9)))
      go_ret
      exact ⟨rfl, H9.out⟩
theorem walFull_walk (v0 v1 : Value) (ls : List (List UInt8)) (z : UInt8) (w : World) (a0 : ArgL w v0 ls) (a1 : ArgU8 v1 z) {K : List Int} (hkt : KT w K) : Calls Tryd.prog 3 #[v0, v1] w fun e w' => e = .returned (.bool true) ∧ Below w.heap.size w w' := by
  obtain ⟨A, c, rfl, _, hl, hn, hm⟩ := a0
  rw [a1]
  exact WalFull_any A c ls z K w hl hn hm hkt
end Go.Proofs.YtmjlneehjlpdlaaDoor
