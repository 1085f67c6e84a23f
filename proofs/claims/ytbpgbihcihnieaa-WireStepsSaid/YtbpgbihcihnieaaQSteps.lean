/- The texts N22 LSteps of this work, merged by wip/merge.py. No conditions. -/
import Derived.Test.YtbpgbihcihnieaaQN20
import Derived.Test.YtbpgbihcihnieaaQArgs
namespace Go.Proofs.Ytbpgbihcihnieaa
open Go.RowKit
theorem nodesOf_ok (b : List UInt8) : ∀ v ∈ nodesOf b, v.ok := fun v hv => by
  unfold nodesOf at hv
  split at hv
  · unfold nodesN at hv
    obtain ⟨k, hk, rfl⟩ := List.mem_map.1 hv
    have := List.mem_range.1 hk
    exact nodeAt_ok (by omega)
  · cases hv
theorem nodesOf_len (b : List UInt8) : (nodesOf b).length ≤ b.length := by
  unfold nodesOf
  split
  · rw [nodesN_length]; omega
  · simp
theorem stepE_cases (r : RootV) (ns : List NodeV) (ad lk : List UInt8) : stepE r ns ad lk = 0 ∨ stepE r ns ad lk = 1 ∨ stepE r ns ad lk = 6 := by
  unfold stepE encE
  split
  · split
    · exact .inl rfl
    · exact .inr (.inr rfl)
  · exact .inr (.inl rfl)
theorem step_ok {r : RootV} {ns : List NodeV} {ad lk : List UInt8} (h : stepE r ns ad lk = 0) : nodesG ns = true ∧ encOK (stepL r ns ad lk) = true := by
  unfold stepE encE at h
  split at h
  · rename_i hg
    split at h
    · rename_i ho; exact ⟨hg, ho⟩
    · cases h
  · cases h
theorem step_forth {r : RootV} {ns : List NodeV} {ad lk : List UInt8} (hr : r.ok) (hn : ∀ v ∈ ns, v.ok) (ha : ad.length % 64 = 0) (hl : lk.length % 96 = 0) (h : stepE r ns ad lk = 0) : stepD (stepB r ns ad lk) = some (r, ns, ad, lk) := by
  obtain ⟨hg, ho⟩ := step_ok h
  have h2 := nodes_forth hn hg
  unfold stepD stepB
  rw [if_pos hg, show stepL r ns ad lk = stepW :: [signB r, nodesB ns, ad, lk] from rfl, openV_enc (n := 4) (ls := [signB r, nodesB ns, ad, lk]) rfl ho]
  unfold stepO
  simp only [root_dec_enc hr]
  rw [if_pos (by simp [h2.1, ha, hl]), h2.2]
theorem step_none {r : RootV} {ns : List NodeV} {ad lk : List UInt8} (h : stepE r ns ad lk ≠ 0) : stepB r ns ad lk = [] := by
  unfold stepE encE at h
  unfold stepB
  by_cases hg : nodesG ns = true
  · rw [if_pos hg] at h ⊢
    by_cases ho : encOK (stepL r ns ad lk) = true
    · rw [if_pos ho] at h; exact absurd rfl h
    · exact encB_no (by simpa using ho)
  · rw [if_neg hg]
theorem step_back {b : List UInt8} {r : RootV} {ns : List NodeV} {ad lk : List UInt8} (h : stepD b = some (r, ns, ad, lk)) :
    stepB r ns ad lk = b ∧ stepE r ns ad lk = 0 ∧ r.ok ∧ (∀ v ∈ ns, v.ok) ∧ ad.length % 64 = 0 ∧ lk.length % 96 = 0 ∧ ns.length ≤ 1048576 ∧ ad.length ≤ 1048576 ∧ lk.length ≤ 1048576 := by
  unfold stepD at h
  cases h1 : openV b stepW 4 with
  | none => rw [h1] at h; cases h
  | some ls =>
    rw [h1] at h
    obtain ⟨x, n, a, l, rfl⟩ := four_of (openV_length h1)
    have hle := openV_le2 h1
    cases h2 : rootD x with
    | none => unfold stepO at h; simp only [h2] at h; cases h
    | some r' =>
      unfold stepO at h
      simp only [h2] at h
      split at h
      · rename_i hc
        simp only [Bool.and_eq_true, decide_eq_true_eq] at hc
        obtain ⟨⟨hn, ha⟩, hl⟩ := hc
        cases h
        have hb := nodes_back hn
        have hr := root_enc_dec h2
        have hL : stepL r (nodesOf n) ad lk = stepW :: [x, n, ad, lk] := by unfold stepL; rw [hr.1, hb.2]
        obtain ⟨hv, he⟩ := openV_list h1
        have hok := (dec_enc he).1
        rw [hv] at hok
        refine ⟨?_, ?_, hr.2, nodesOf_ok n, ha, hl, ?_, hle _ (by simp), hle _ (by simp)⟩
        · unfold stepB; rw [if_pos hb.1, hL]; exact openV_dec h1
        · unfold stepE; rw [if_pos hb.1, hL]; exact encE_ok hok
        · have h3 := nodesOf_len n
          have h4 := hle n (by simp)
          omega
      · cases h
abbrev StepT := RootV × List NodeV × List UInt8 × List UInt8
def stepR (b : List UInt8) : StepT := (stepD b).getD (rootZ, [], [], [])
def stepF (b : List UInt8) : Int := if (stepD b).isSome then 0 else 2
theorem stepF_cases (b : List UInt8) : stepF b = 0 ∨ stepF b = 2 := by unfold stepF; split <;> simp
theorem stepR_some {b : List UInt8} {q : StepT} (h : stepD b = some q) : stepR b = q ∧ stepF b = 0 := by unfold stepR stepF; rw [h]; exact ⟨rfl, rfl⟩
theorem stepR_of {b : List UInt8} (h : stepF b = 0) : stepD b = some (stepR b) := by
  unfold stepF at h
  unfold stepR
  cases hd : stepD b with
  | none => rw [hd] at h; cases h
  | some q => rfl
/-- What DecodeStep leaves: a step that may be read. -/
def SDP (b : List UInt8) (w : World) (e : Ending) (w' : World) : Prop :=
  ∃ (cs : Array Value) (An Aa Al : Option Addr) (cn na ca nl cl : Nat), e = .returned (.tuple #[.agg cs, .int .i64 (stepF b)]) ∧ StepIn w' cs (stepR b).1 (stepR b).2.1 (stepR b).2.2.1 (stepR b).2.2.2 An Aa Al cn na ca nl cl ∧ (cs.all fun x => x.oneCell') = true ∧ Below w.heap.size w w'
theorem reads_none (w : World) (B s : Nat) : Reads w B s none 0 [] := ⟨by simp, fun h => absurd h (by omega)⟩
theorem sdp {b : List UInt8} {w w' : World} {e : Ending} (h : SDPost b w e w') : SDP b w e w' := by
  rcases h with ⟨hd, he, hb⟩ | ⟨r, ns, ad, lk, An, Aa, Al, nn, cn, na, ca, nl, cl, hd, he, hn, ha, hl, hb⟩
  · have h1 : stepR b = (rootZ, [], [], []) ∧ stepF b = 2 := by unfold stepR stepF; rw [hd]; exact ⟨rfl, rfl⟩
    refine ⟨stepZ, none, none, none, 0, 0, 0, 0, 0, by rw [h1.2]; exact he, ?_, stepZ_one, hb⟩
    rw [h1.1]
    exact ⟨rfl, rootZ_ok, ⟨(fun _ h => by cases h), reads_none _ _ _⟩, by show 0 ≤ _; omega, reads_none _ _ _, by show 0 ≤ _; omega, reads_none _ _ _, by show 0 ≤ _; omega⟩
  · have h1 := stepR_some hd
    obtain ⟨_, _, k1, k2, k3, k4, k5, k6, k7⟩ := step_back hd
    obtain ⟨_, _, e1, _, r1⟩ := ownR_form hn
    obtain ⟨_, _, e2, _, r2⟩ := ownR_form ha
    obtain ⟨_, _, e3, _, r3⟩ := ownR_form hl
    injection e1 with e1a e1b e1c
    injection e2 with e2a e2b e2c
    injection e3 with e3a e3b e3c
    subst e1a e1b e2a e3a
    refine ⟨_, An, Aa, Al, cn, na, ca, nl, cl, by rw [h1.2]; exact he, ?_, step_one, hb⟩
    rw [h1.1]
    exact ⟨rfl, k1, ⟨k2, r1⟩, by show ns.length ≤ _; omega, r2, by show ad.length ≤ _; omega, r3, by show lk.length ≤ _; omega⟩
theorem DecodeStep_p (A : Option Addr) (c : Nat) (b : List UInt8) (w : World) (hr : Reads w w.heap.size 1 A b.length (bvs b)) (hc : b.length ≤ c) (hm : b.length ≤ 140737488355328) : Calls Try.prog 40 #[.slice A b.length c] w (SDP b w) := (DecodeStep_any A c b w hr hc hm).mono fun _ _ h => sdp h
theorem rDecodeStep_p (A : Option Addr) (c : Nat) (b : List UInt8) (w : World) (hr : Reads w w.heap.size 1 A b.length (bvs b)) (hc : b.length ≤ c) (hm : b.length ≤ 140737488355328) : Calls Try.prog 41 #[.slice A b.length c] w (SDP b w) := (rDecodeStep_any A c b w hr hc hm).mono fun _ _ h => sdp h
theorem EncodeStep_any (w : World) (cs : Array Value) (r : RootV) (ns : List NodeV) (ad lk : List UInt8) (An Aa Al : Option Addr) (cn na ca nl cl : Nat) (hs : StepIn w cs r ns ad lk An Aa Al cn na ca nl cl) : Calls Try.prog 38 #[.agg cs] w (StepPost r ns ad lk w) := by
  cases hg : nodesG ns with
  | false => exact EncodeStep_no w cs r ns ad lk An Aa Al cn na ca nl cl hs hg
  | true => exact EncodeStep_yes w cs r ns ad lk An Aa Al cn na ca nl cl hs hg
theorem rEncodeStep_any (w : World) (cs : Array Value) (r : RootV) (ns : List NodeV) (ad lk : List UInt8) (An Aa Al : Option Addr) (cn na ca nl cl : Nat) (hs : StepIn w cs r ns ad lk An Aa Al cn na ca nl cl) : Calls Try.prog 39 #[.agg cs] w (StepPost r ns ad lk w) := by
  cases hg : nodesG ns with
  | false => exact rEncodeStep_no w cs r ns ad lk An Aa Al cn na ca nl cl hs hg
  | true => exact rEncodeStep_yes w cs r ns ad lk An Aa Al cn na ca nl cl hs hg
theorem StepIn.len {w : World} {cs : Array Value} {r : RootV} {ns : List NodeV} {ad lk : List UInt8} {An Aa Al : Option Addr} {cn na ca nl cl : Nat} (h : StepIn w cs r ns ad lk An Aa Al cn na ca nl cl) : ad.length % 64 = 0 ∧ lk.length % 96 = 0 := by
  have h1 := h.had.1
  have h2 := h.hlk.1
  rw [bvs_length] at h1 h2
  omega
/-- An argument's step is written and read back. -/
theorem StepIn.forth {w : World} {cs : Array Value} {r : RootV} {ns : List NodeV} {ad lk : List UInt8} {An Aa Al : Option Addr} {cn na ca nl cl : Nat} (h : StepIn w cs r ns ad lk An Aa Al cn na ca nl cl) (hE : stepE r ns ad lk = 0) : stepR (stepB r ns ad lk) = (r, ns, ad, lk) ∧ stepF (stepB r ns ad lk) = 0 :=
  stepR_some (step_forth h.hok h.hns.1 h.len.1 h.len.2 hE)
theorem stepB_le {r : RootV} {ns : List NodeV} {ad lk : List UInt8} : (stepB r ns ad lk).length ≤ 1048576 := by
  unfold stepB
  split
  · cases hk : encOK (stepL r ns ad lk) with
    | false => rw [encB_no hk]; simp
    | true =>
      rw [encB_ok hk, List.length_append, be4_length, members_length]
      have : (stepL r ns ad lk).length ≤ 65536 ∧ 4 + bulk (stepL r ns ad lk) ≤ 1048576 := by simpa [encOK] using hk
      exact this.2
  · simp
end Go.Proofs.Ytbpgbihcihnieaa

namespace Go.Proofs.Ytbpgbihcihnieaa
open Go.RowKit
theorem wpList_load_step {ops : Array Oper} {rest : List Oper} {op : Oper} {a : Act} {w : World} {Q : Exit → Act → World → Prop} (hw : Region.wanted op (yielded ops a.tmps) = true) (x : Operand) (ho : op.op = .load 66 x)
    (b : Nat) (xs : Array Value) (hr : w.rangeAt b 0 xs.toList) (hs : xs.size = 166) (hx : a.eval x = .pointer (some ⟨b, 0, none⟩)) {d : Nat} (hd : op.dst = some d)
    (h : wpList Try.prog ops Q rest { a with tmps := a.tmps.setIfInBounds d (.agg xs) } w) : wpList Try.prog ops Q (op :: rest) a w := by
  unfold wpList
  rw [if_pos hw]
  refine .inl (wp_load_mid 66 x ho b 0 hx xs.toList _ hr Try.underlying66 rfl (by rw [Array.length_toList, hs]; kernel_rfl) ?_)
  rw [Array.toArray_toList, hd]
  exact h
set_option maxRecDepth 100000 in
set_option maxHeartbeats 4000000 in
theorem WireSteps_00 (w : World) (cs : Array Value) (r : RootV) (ns : List NodeV) (ad lk : List UInt8) (An Aa Al : Option Addr) (cn na ca nl cl : Nat) (hs : StepIn w cs r ns ad lk An Aa Al cn na ca nl cl) (v1 : Value) (l : List UInt8) (a1 : ArgB w v1 l) (hE : stepE r ns ad lk = 0) (hF : stepF l = 0) : Calls Try.prog 11 #[.agg cs, v1] w fun e w' => e = .returned (.bool true) ∧ Below w.heap.size w w' := by
  obtain ⟨A, c, rfl, hc, hrd, hm⟩ := a1
  rw [reach_eq] at hm
  have hm' : l.length ≤ 140737488355328 := by omega
  obtain ⟨Zz, hZ⟩ : ∃ Z : Array Value, Z = stepZ := ⟨_, rfl⟩
  have hz := hz66
  rw [← hZ] at hz
  have HZz : Hid (Zz.size = 166) := by show _ = _; rw [hZ]; exact stepZ_size
  have HE := Lib.hid hE
  have HF := Lib.hid hF
  have hfo := hs.forth hE
  obtain ⟨S, hS⟩ : ∃ S : List UInt8, S = stepB r ns ad lk := ⟨_, rfl⟩
  rw [← hS] at hfo
  have HSB : Hid (stepB r ns ad lk = S) := hS.symm
  have HFO := Lib.hid hfo
  have HSL : Hid (S.length ≤ 140737488355328) := by
    show _ ≤ _
    have := stepB_le (r := r) (ns := ns) (ad := ad) (lk := lk)
    rw [← hS] at this
    omega
  clear hfo hS
  have HBK := Lib.hid (step_back (r := (stepR l).1) (ns := (stepR l).2.1) (ad := (stepR l).2.2.1) (lk := (stepR l).2.2.2) (stepR_of hF))
  have XS : Hid (cs.size = 166) := hs.size
  have X0 : Hid ((w.alloc (.cells cs 66)).heap[w.heap.size]? = some (.cells cs 66 (0, 0))) := heap_alloc_new w _
  have D0 : Hid (Below w.heap.size w (w.alloc (.cells cs 66))) := (Below.refl _ _).alloc (Nat.le_refl _) _
  have SX0 := Lib.hid (hs.below D0.out)
  have RB0 := Lib.hid ((hrd.keep fun _ hp => D0.out.cell hp).more D0.out.size)
  have Hc := Lib.hid hc
  have Hm := Lib.hid hm'
  clear hm hm' hs hrd hc hZ hE hF
  have TD0 : Hid True := trivial
  have TE0 : Hid True := trivial
  have TS0 : Hid True := trivial
  go_enter Try.func11, Try.ntmps11
  go_wp2_with (first
    | (go_at_call 12; go_must (refine (awake_any _).mono ?_; rintro e w1 ⟨rfl, hb⟩; have X1 := Lib.hid (heap_below X0.out hb); have D1 := Lib.hid (D0.out.trans (hb.mono D0.out.size)); have SX1 := Lib.hid (SX0.out.below hb); have RB1 := Lib.hid ((RB0.out.keep fun _ hp => hb.cell hp).more hb.size); clear hb))
    | (go_at_call 38; have hx_ := TE1; go_must (refine (EncodeStep_any w6 Yc (stepR l).1 (stepR l).2.1 (stepR l).2.2.1 (stepR l).2.2.2 AY1 AY2 AY3 nY1 nY2 nY3 nY4 nY5 (SY6.out)).mono ?_; rintro e w7 ⟨v, rfl, ho, hb⟩; rw [HBK.out.2.1]; rw [HBK.out.1] at ho; obtain ⟨A7, c7, rfl, hc_, hr_⟩ := own8_form ho; have X7 := Lib.hid (heap_below X6.out hb); have D7 := Lib.hid (D6.out.trans (hb.mono D6.out.size)); have SX7 := Lib.hid (SX6.out.below hb); have RB7 := Lib.hid ((RB6.out.keep fun _ hp => hb.cell hp).more hb.size); have RS7 := Lib.hid ((RS6.out.keep fun _ hp => hb.cell hp).more hb.size); have hsu := run_str8 hr_ c7; have hsb := run_str8 RB7.out c; clear ho hb hc_ hr_ TE1 hx_))
    | (go_at_call 38; have hx_ := TE0; go_must (refine (EncodeStep_any w1 cs r ns ad lk An Aa Al cn na ca nl cl (SX1.out)).mono ?_; rintro e w2 ⟨v, rfl, ho, hb⟩; rw [HE.out]; rw [HSB.out] at ho; obtain ⟨A2, c2, rfl, hc_, hr_⟩ := own8_form ho; have RS2 := Lib.hid (hr_); have C2 := Lib.hid (hc_); have X2 := Lib.hid (heap_below X1.out hb); have D2 := Lib.hid (D1.out.trans (hb.mono D1.out.size)); have SX2 := Lib.hid (SX1.out.below hb); have RB2 := Lib.hid ((RB1.out.keep fun _ hp => hb.cell hp).more hb.size); have TE1 := hx_; clear ho hb hc_ hr_ TE0 hx_))
    | (go_at_call 39; go_must (refine (rEncodeStep_any w2 cs r ns ad lk An Aa Al cn na ca nl cl (SX2.out)).mono ?_; rintro e w3 ⟨v, rfl, ho, hb⟩; rw [HE.out]; rw [HSB.out] at ho; obtain ⟨A3, c3, rfl, hc_, hr_⟩ := own8_form ho; have RT3 := Lib.hid (hr_); have C3 := Lib.hid (hc_); have X3 := Lib.hid (heap_below X2.out hb); have D3 := Lib.hid (D2.out.trans (hb.mono D2.out.size)); have SX3 := Lib.hid (SX2.out.below hb); have RB3 := Lib.hid ((RB2.out.keep fun _ hp => hb.cell hp).more hb.size); have RS3 := Lib.hid ((RS2.out.keep fun _ hp => hb.cell hp).more hb.size); clear ho hb hc_ hr_))
    | (go_at_call 40; have hx_ := TD1; go_must (refine (DecodeStep_p A2 c2 S _ (RS7.out) C2.out HSL.out).mono ?_; rintro e w8 ⟨Wc, AW1, AW2, AW3, nW1, nW2, nW3, nW4, nW5, rfl, hy, oy, hb⟩; rw [HFO.out.2]; have WS := Lib.hid (hy.size); have WO := Lib.hid (oy); have rn := row_new w8 Zz Wc 66; have SW8 := Lib.hid (hy.below rn.1); have W8 := Lib.hid (rn.2.1); have AN8 := Lib.hid (heap_alloc_new w8 (.cells Zz 66)); have hb2 := hb.trans (rn.1.mono hb.size); have X8 := Lib.hid (heap_below X7.out hb2); have D8 := Lib.hid (D7.out.trans (hb2.mono D7.out.size)); have SX8 := Lib.hid (SX7.out.below hb2); rw [HFO.out.1] at SW8; clear TD1 hx_; clear hy oy rn hb hb2))
    | (go_at_call 40; have hx_ := TD0; go_must (refine (DecodeStep_p A c l _ (RB3.out) Hc.out Hm.out).mono ?_; rintro e w4 ⟨Yc, AY1, AY2, AY3, nY1, nY2, nY3, nY4, nY5, rfl, hy, oy, hb⟩; rw [HF.out]; have YS := Lib.hid (hy.size); have YO := Lib.hid (oy); have rn := row_new w4 Zz Yc 66; have SY4 := Lib.hid (hy.below rn.1); have Y4 := Lib.hid (rn.2.1); have AN4 := Lib.hid (heap_alloc_new w4 (.cells Zz 66)); have hb2 := hb.trans (rn.1.mono hb.size); have X4 := Lib.hid (heap_below X3.out hb2); have D4 := Lib.hid (D3.out.trans (hb2.mono D3.out.size)); have SX4 := Lib.hid (SX3.out.below hb2); have RB4 := Lib.hid ((RB3.out.keep fun _ hp => hb2.cell hp).more hb2.size); have RS4 := Lib.hid ((RS3.out.keep fun _ hp => hb2.cell hp).more hb2.size); have RT4 := Lib.hid ((RT3.out.keep fun _ hp => hb2.cell hp).more hb2.size); have TD1 := hx_; clear TD0 hx_; clear hy oy rn hb hb2))
    | (go_at_call 41; go_must (refine (rDecodeStep_p A c l _ (RB4.out) Hc.out Hm.out).mono ?_; rintro e w5 ⟨Zc, AZ1, AZ2, AZ3, nZ1, nZ2, nZ3, nZ4, nZ5, rfl, hy, oy, hb⟩; rw [HF.out]; have ZS := Lib.hid (hy.size); have ZO := Lib.hid (oy); have rn := row_new w5 Zz Zc 66; have SZ5 := Lib.hid (hy.below rn.1); have Z5 := Lib.hid (rn.2.1); have AN5 := Lib.hid (heap_alloc_new w5 (.cells Zz 66)); have hb2 := hb.trans (rn.1.mono hb.size); have X5 := Lib.hid (heap_below X4.out hb2); have D5 := Lib.hid (D4.out.trans (hb2.mono D4.out.size)); have SX5 := Lib.hid (SX4.out.below hb2); have RB5 := Lib.hid ((RB4.out.keep fun _ hp => hb2.cell hp).more hb2.size); have RS5 := Lib.hid ((RS4.out.keep fun _ hp => hb2.cell hp).more hb2.size); have RT5 := Lib.hid ((RT4.out.keep fun _ hp => hb2.cell hp).more hb2.size); have Y5 := Lib.hid (heap_below Y4.out hb2); have SY5 := Lib.hid (SY4.out.below hb2); have hs2 := run_str8 RS5.out c2; have hs3 := run_str8 RT5.out c3; clear hy oy rn hb hb2))
    | (go_at_call 42; have hx_ := TS1; go_must (refine (SameStep_any _ Wc cs r ns ad lk AW1 AW2 AW3 nW1 nW2 nW3 nW4 nW5 An Aa Al cn na ca nl cl SW8.out SX8.out).mono ?_; rintro e w9 ⟨rfl, hb⟩; have D9 := Lib.hid (D8.out.trans (hb.mono D8.out.size)); clear hb TS1 hx_))
    | (go_at_call 42; have hx_ := TS0; go_must (refine (SameStep_any _ Yc Zc (stepR l).1 (stepR l).2.1 (stepR l).2.2.1 (stepR l).2.2.2 AY1 AY2 AY3 nY1 nY2 nY3 nY4 nY5 AZ1 AZ2 AZ3 nZ1 nZ2 nZ3 nZ4 nZ5 SY5.out SZ5.out).mono ?_; rintro e w6 ⟨rfl, hb⟩; have X6 := Lib.hid (heap_below X5.out hb); have D6 := Lib.hid (D5.out.trans (hb.mono D5.out.size)); have SX6 := Lib.hid (SX5.out.below hb); have RB6 := Lib.hid ((RB5.out.keep fun _ hp => hb.cell hp).more hb.size); have RS6 := Lib.hid ((RS5.out.keep fun _ hp => hb.cell hp).more hb.size); have Y6 := Lib.hid (heap_below Y5.out hb); have SY6 := Lib.hid (SY5.out.below hb); have TS1 := hx_; clear hb TS0 hx_ hs2 hs3))
    | (refine wpList_store_row rfl _ _ _ rfl w4.heap.size Yc rfl rfl 66 Zz (by with_reducible exact AN4.out) (by rw [YS.out]; kernel_rfl) (by rw [YS.out, HZz.out]) (by exact YO.out) ?_)
    | (refine wpList_store_row rfl _ _ _ rfl w5.heap.size Zc rfl rfl 66 Zz (by with_reducible exact AN5.out) (by rw [ZS.out]; kernel_rfl) (by rw [ZS.out, HZz.out]) (by exact ZO.out) ?_)
    | (refine wpList_store_row rfl _ _ _ rfl w8.heap.size Wc rfl rfl 66 Zz (by with_reducible exact AN8.out) (by rw [WS.out]; kernel_rfl) (by rw [WS.out, HZz.out]) (by exact WO.out) ?_)
    | (refine wpList_load_step (by kernel_rfl) _ rfl _ cs (by with_reducible exact range_row X1.out) XS.out rfl rfl ?_)
    | (refine wpList_load_step (by kernel_rfl) _ rfl _ cs (by with_reducible exact range_row X2.out) XS.out rfl rfl ?_)
    | (refine wpList_load_step (by kernel_rfl) _ rfl _ Yc (by with_reducible exact range_row Y5.out) YS.out rfl rfl ?_)
    | (refine wpList_load_step (by kernel_rfl) _ rfl _ Zc (by with_reducible exact range_row Z5.out) ZS.out rfl rfl ?_)
    | (refine wpList_load_step (by kernel_rfl) _ rfl _ Yc (by with_reducible exact range_row Y6.out) YS.out rfl rfl ?_)
    | (refine wpList_load_step (by kernel_rfl) _ rfl _ Wc (by with_reducible exact range_row W8.out) WS.out rfl rfl ?_)
    | (refine wpList_load_step (by kernel_rfl) _ rfl _ cs (by with_reducible exact range_row X8.out) XS.out rfl rfl ?_))
  all_goals (first | go_ret | (refine bodyPost_ret (v := .bool true) (by simp [results, Try.results11]) rfl ?_))
  all_goals exact ⟨rfl, D9.out⟩
set_option maxRecDepth 100000 in
set_option maxHeartbeats 4000000 in
theorem WireSteps_02 (w : World) (cs : Array Value) (r : RootV) (ns : List NodeV) (ad lk : List UInt8) (An Aa Al : Option Addr) (cn na ca nl cl : Nat) (hs : StepIn w cs r ns ad lk An Aa Al cn na ca nl cl) (v1 : Value) (l : List UInt8) (a1 : ArgB w v1 l) (hE : stepE r ns ad lk = 0) (hF : stepF l = 2) : Calls Try.prog 11 #[.agg cs, v1] w fun e w' => e = .returned (.bool true) ∧ Below w.heap.size w w' := by
  obtain ⟨A, c, rfl, hc, hrd, hm⟩ := a1
  rw [reach_eq] at hm
  have hm' : l.length ≤ 140737488355328 := by omega
  obtain ⟨Zz, hZ⟩ : ∃ Z : Array Value, Z = stepZ := ⟨_, rfl⟩
  have hz := hz66
  rw [← hZ] at hz
  have HZz : Hid (Zz.size = 166) := by show _ = _; rw [hZ]; exact stepZ_size
  have HE := Lib.hid hE
  have HF := Lib.hid hF
  have hfo := hs.forth hE
  obtain ⟨S, hS⟩ : ∃ S : List UInt8, S = stepB r ns ad lk := ⟨_, rfl⟩
  rw [← hS] at hfo
  have HSB : Hid (stepB r ns ad lk = S) := hS.symm
  have HFO := Lib.hid hfo
  have HSL : Hid (S.length ≤ 140737488355328) := by
    show _ ≤ _
    have := stepB_le (r := r) (ns := ns) (ad := ad) (lk := lk)
    rw [← hS] at this
    omega
  clear hfo hS
  have XS : Hid (cs.size = 166) := hs.size
  have X0 : Hid ((w.alloc (.cells cs 66)).heap[w.heap.size]? = some (.cells cs 66 (0, 0))) := heap_alloc_new w _
  have D0 : Hid (Below w.heap.size w (w.alloc (.cells cs 66))) := (Below.refl _ _).alloc (Nat.le_refl _) _
  have SX0 := Lib.hid (hs.below D0.out)
  have RB0 := Lib.hid ((hrd.keep fun _ hp => D0.out.cell hp).more D0.out.size)
  have Hc := Lib.hid hc
  have Hm := Lib.hid hm'
  clear hm hm' hs hrd hc hZ hE hF
  have TD0 : Hid True := trivial
  have TE0 : Hid True := trivial
  have TS0 : Hid True := trivial
  go_enter Try.func11, Try.ntmps11
  go_wp2_with (first
    | (go_at_call 12; go_must (refine (awake_any _).mono ?_; rintro e w1 ⟨rfl, hb⟩; have X1 := Lib.hid (heap_below X0.out hb); have D1 := Lib.hid (D0.out.trans (hb.mono D0.out.size)); have SX1 := Lib.hid (SX0.out.below hb); have RB1 := Lib.hid ((RB0.out.keep fun _ hp => hb.cell hp).more hb.size); clear hb))
    | (go_at_call 38; have hx_ := TE0; go_must (refine (EncodeStep_any w1 cs r ns ad lk An Aa Al cn na ca nl cl (SX1.out)).mono ?_; rintro e w2 ⟨v, rfl, ho, hb⟩; rw [HE.out]; rw [HSB.out] at ho; obtain ⟨A2, c2, rfl, hc_, hr_⟩ := own8_form ho; have RS2 := Lib.hid (hr_); have C2 := Lib.hid (hc_); have X2 := Lib.hid (heap_below X1.out hb); have D2 := Lib.hid (D1.out.trans (hb.mono D1.out.size)); have SX2 := Lib.hid (SX1.out.below hb); have RB2 := Lib.hid ((RB1.out.keep fun _ hp => hb.cell hp).more hb.size); have TE1 := hx_; clear ho hb hc_ hr_ TE0 hx_))
    | (go_at_call 39; go_must (refine (rEncodeStep_any w2 cs r ns ad lk An Aa Al cn na ca nl cl (SX2.out)).mono ?_; rintro e w3 ⟨v, rfl, ho, hb⟩; rw [HE.out]; rw [HSB.out] at ho; obtain ⟨A3, c3, rfl, hc_, hr_⟩ := own8_form ho; have RT3 := Lib.hid (hr_); have C3 := Lib.hid (hc_); have X3 := Lib.hid (heap_below X2.out hb); have D3 := Lib.hid (D2.out.trans (hb.mono D2.out.size)); have SX3 := Lib.hid (SX2.out.below hb); have RB3 := Lib.hid ((RB2.out.keep fun _ hp => hb.cell hp).more hb.size); have RS3 := Lib.hid ((RS2.out.keep fun _ hp => hb.cell hp).more hb.size); clear ho hb hc_ hr_))
    | (go_at_call 40; have hx_ := TD1; go_must (refine (DecodeStep_p A2 c2 S _ (RS6.out) C2.out HSL.out).mono ?_; rintro e w8 ⟨Wc, AW1, AW2, AW3, nW1, nW2, nW3, nW4, nW5, rfl, hy, oy, hb⟩; rw [HFO.out.2]; have WS := Lib.hid (hy.size); have WO := Lib.hid (oy); have rn := row_new w8 Zz Wc 66; have SW8 := Lib.hid (hy.below rn.1); have W8 := Lib.hid (rn.2.1); have AN8 := Lib.hid (heap_alloc_new w8 (.cells Zz 66)); have hb2 := hb.trans (rn.1.mono hb.size); have X8 := Lib.hid (heap_below X6.out hb2); have D8 := Lib.hid (D6.out.trans (hb2.mono D6.out.size)); have SX8 := Lib.hid (SX6.out.below hb2); rw [HFO.out.1] at SW8; clear TD1 hx_; clear hy oy rn hb hb2))
    | (go_at_call 40; have hx_ := TD0; go_must (refine (DecodeStep_p A c l _ (RB3.out) Hc.out Hm.out).mono ?_; rintro e w4 ⟨Yc, AY1, AY2, AY3, nY1, nY2, nY3, nY4, nY5, rfl, hy, oy, hb⟩; rw [HF.out]; have YS := Lib.hid (hy.size); have YO := Lib.hid (oy); have rn := row_new w4 Zz Yc 66; have SY4 := Lib.hid (hy.below rn.1); have Y4 := Lib.hid (rn.2.1); have AN4 := Lib.hid (heap_alloc_new w4 (.cells Zz 66)); have hb2 := hb.trans (rn.1.mono hb.size); have X4 := Lib.hid (heap_below X3.out hb2); have D4 := Lib.hid (D3.out.trans (hb2.mono D3.out.size)); have SX4 := Lib.hid (SX3.out.below hb2); have RB4 := Lib.hid ((RB3.out.keep fun _ hp => hb2.cell hp).more hb2.size); have RS4 := Lib.hid ((RS3.out.keep fun _ hp => hb2.cell hp).more hb2.size); have RT4 := Lib.hid ((RT3.out.keep fun _ hp => hb2.cell hp).more hb2.size); have TD1 := hx_; clear TD0 hx_; clear hy oy rn hb hb2))
    | (go_at_call 41; go_must (refine (rDecodeStep_p A c l _ (RB4.out) Hc.out Hm.out).mono ?_; rintro e w5 ⟨Zc, AZ1, AZ2, AZ3, nZ1, nZ2, nZ3, nZ4, nZ5, rfl, hy, oy, hb⟩; rw [HF.out]; have ZS := Lib.hid (hy.size); have ZO := Lib.hid (oy); have rn := row_new w5 Zz Zc 66; have SZ5 := Lib.hid (hy.below rn.1); have Z5 := Lib.hid (rn.2.1); have AN5 := Lib.hid (heap_alloc_new w5 (.cells Zz 66)); have hb2 := hb.trans (rn.1.mono hb.size); have X5 := Lib.hid (heap_below X4.out hb2); have D5 := Lib.hid (D4.out.trans (hb2.mono D4.out.size)); have SX5 := Lib.hid (SX4.out.below hb2); have RB5 := Lib.hid ((RB4.out.keep fun _ hp => hb2.cell hp).more hb2.size); have RS5 := Lib.hid ((RS4.out.keep fun _ hp => hb2.cell hp).more hb2.size); have RT5 := Lib.hid ((RT4.out.keep fun _ hp => hb2.cell hp).more hb2.size); have Y5 := Lib.hid (heap_below Y4.out hb2); have SY5 := Lib.hid (SY4.out.below hb2); have hs2 := run_str8 RS5.out c2; have hs3 := run_str8 RT5.out c3; clear hy oy rn hb hb2))
    | (go_at_call 42; have hx_ := TS1; go_must (refine (SameStep_any _ Wc cs r ns ad lk AW1 AW2 AW3 nW1 nW2 nW3 nW4 nW5 An Aa Al cn na ca nl cl SW8.out SX8.out).mono ?_; rintro e w9 ⟨rfl, hb⟩; have D9 := Lib.hid (D8.out.trans (hb.mono D8.out.size)); clear hb TS1 hx_))
    | (go_at_call 42; have hx_ := TS0; go_must (refine (SameStep_any _ Yc Zc (stepR l).1 (stepR l).2.1 (stepR l).2.2.1 (stepR l).2.2.2 AY1 AY2 AY3 nY1 nY2 nY3 nY4 nY5 AZ1 AZ2 AZ3 nZ1 nZ2 nZ3 nZ4 nZ5 SY5.out SZ5.out).mono ?_; rintro e w6 ⟨rfl, hb⟩; have X6 := Lib.hid (heap_below X5.out hb); have D6 := Lib.hid (D5.out.trans (hb.mono D5.out.size)); have SX6 := Lib.hid (SX5.out.below hb); have RB6 := Lib.hid ((RB5.out.keep fun _ hp => hb.cell hp).more hb.size); have RS6 := Lib.hid ((RS5.out.keep fun _ hp => hb.cell hp).more hb.size); have Y6 := Lib.hid (heap_below Y5.out hb); have SY6 := Lib.hid (SY5.out.below hb); have TS1 := hx_; clear hb TS0 hx_ hs2 hs3))
    | (refine wpList_store_row rfl _ _ _ rfl w4.heap.size Yc rfl rfl 66 Zz (by with_reducible exact AN4.out) (by rw [YS.out]; kernel_rfl) (by rw [YS.out, HZz.out]) (by exact YO.out) ?_)
    | (refine wpList_store_row rfl _ _ _ rfl w5.heap.size Zc rfl rfl 66 Zz (by with_reducible exact AN5.out) (by rw [ZS.out]; kernel_rfl) (by rw [ZS.out, HZz.out]) (by exact ZO.out) ?_)
    | (refine wpList_store_row rfl _ _ _ rfl w8.heap.size Wc rfl rfl 66 Zz (by with_reducible exact AN8.out) (by rw [WS.out]; kernel_rfl) (by rw [WS.out, HZz.out]) (by exact WO.out) ?_)
    | (refine wpList_load_step (by kernel_rfl) _ rfl _ cs (by with_reducible exact range_row X1.out) XS.out rfl rfl ?_)
    | (refine wpList_load_step (by kernel_rfl) _ rfl _ cs (by with_reducible exact range_row X2.out) XS.out rfl rfl ?_)
    | (refine wpList_load_step (by kernel_rfl) _ rfl _ Yc (by with_reducible exact range_row Y5.out) YS.out rfl rfl ?_)
    | (refine wpList_load_step (by kernel_rfl) _ rfl _ Zc (by with_reducible exact range_row Z5.out) ZS.out rfl rfl ?_)
    | (refine wpList_load_step (by kernel_rfl) _ rfl _ Wc (by with_reducible exact range_row W8.out) WS.out rfl rfl ?_)
    | (refine wpList_load_step (by kernel_rfl) _ rfl _ cs (by with_reducible exact range_row X8.out) XS.out rfl rfl ?_))
  all_goals (first | go_ret | (refine bodyPost_ret (v := .bool true) (by simp [results, Try.results11]) rfl ?_))
  all_goals exact ⟨rfl, D9.out⟩
set_option maxRecDepth 100000 in
set_option maxHeartbeats 4000000 in
theorem WireSteps_10 (w : World) (cs : Array Value) (r : RootV) (ns : List NodeV) (ad lk : List UInt8) (An Aa Al : Option Addr) (cn na ca nl cl : Nat) (hs : StepIn w cs r ns ad lk An Aa Al cn na ca nl cl) (v1 : Value) (l : List UInt8) (a1 : ArgB w v1 l) (hE : stepE r ns ad lk = 1) (hF : stepF l = 0) : Calls Try.prog 11 #[.agg cs, v1] w fun e w' => e = .returned (.bool true) ∧ Below w.heap.size w w' := by
  obtain ⟨A, c, rfl, hc, hrd, hm⟩ := a1
  rw [reach_eq] at hm
  have hm' : l.length ≤ 140737488355328 := by omega
  obtain ⟨Zz, hZ⟩ : ∃ Z : Array Value, Z = stepZ := ⟨_, rfl⟩
  have hz := hz66
  rw [← hZ] at hz
  have HZz : Hid (Zz.size = 166) := by show _ = _; rw [hZ]; exact stepZ_size
  have HE := Lib.hid hE
  have HF := Lib.hid hF
  have hno := step_none (r := r) (ns := ns) (ad := ad) (lk := lk) (by rw [hE]; decide)
  obtain ⟨S, hS⟩ : ∃ S : List UInt8, S = stepB r ns ad lk := ⟨_, rfl⟩
  rw [← hS] at hno
  have HSB : Hid (stepB r ns ad lk = S) := hS.symm
  have hl0 : (((S.length : Nat) : Int) == 0) = true := by rw [hno]; rfl
  clear hno hS
  have HBK := Lib.hid (step_back (r := (stepR l).1) (ns := (stepR l).2.1) (ad := (stepR l).2.2.1) (lk := (stepR l).2.2.2) (stepR_of hF))
  have XS : Hid (cs.size = 166) := hs.size
  have X0 : Hid ((w.alloc (.cells cs 66)).heap[w.heap.size]? = some (.cells cs 66 (0, 0))) := heap_alloc_new w _
  have D0 : Hid (Below w.heap.size w (w.alloc (.cells cs 66))) := (Below.refl _ _).alloc (Nat.le_refl _) _
  have SX0 := Lib.hid (hs.below D0.out)
  have RB0 := Lib.hid ((hrd.keep fun _ hp => D0.out.cell hp).more D0.out.size)
  have Hc := Lib.hid hc
  have Hm := Lib.hid hm'
  clear hm hm' hs hrd hc hZ hE hF
  have TD0 : Hid True := trivial
  have TE0 : Hid True := trivial
  have TS0 : Hid True := trivial
  go_enter Try.func11, Try.ntmps11
  go_wp2_with (first
    | (go_at_call 12; go_must (refine (awake_any _).mono ?_; rintro e w1 ⟨rfl, hb⟩; have X1 := Lib.hid (heap_below X0.out hb); have D1 := Lib.hid (D0.out.trans (hb.mono D0.out.size)); have SX1 := Lib.hid (SX0.out.below hb); have RB1 := Lib.hid ((RB0.out.keep fun _ hp => hb.cell hp).more hb.size); clear hb))
    | (go_at_call 38; have hx_ := TE1; go_must (refine (EncodeStep_any w6 Yc (stepR l).1 (stepR l).2.1 (stepR l).2.2.1 (stepR l).2.2.2 AY1 AY2 AY3 nY1 nY2 nY3 nY4 nY5 (SY6.out)).mono ?_; rintro e w7 ⟨v, rfl, ho, hb⟩; rw [HBK.out.2.1]; rw [HBK.out.1] at ho; obtain ⟨A7, c7, rfl, hc_, hr_⟩ := own8_form ho; have X7 := Lib.hid (heap_below X6.out hb); have D7 := Lib.hid (D6.out.trans (hb.mono D6.out.size)); have SX7 := Lib.hid (SX6.out.below hb); have RB7 := Lib.hid ((RB6.out.keep fun _ hp => hb.cell hp).more hb.size); have hsu := run_str8 hr_ c7; have hsb := run_str8 RB7.out c; clear ho hb hc_ hr_ TE1 hx_))
    | (go_at_call 38; have hx_ := TE0; go_must (refine (EncodeStep_any w1 cs r ns ad lk An Aa Al cn na ca nl cl (SX1.out)).mono ?_; rintro e w2 ⟨v, rfl, ho, hb⟩; rw [HE.out]; rw [HSB.out] at ho; obtain ⟨A2, c2, rfl, hc_, hr_⟩ := own8_form ho; have RS2 := Lib.hid (hr_); have C2 := Lib.hid (hc_); have X2 := Lib.hid (heap_below X1.out hb); have D2 := Lib.hid (D1.out.trans (hb.mono D1.out.size)); have SX2 := Lib.hid (SX1.out.below hb); have RB2 := Lib.hid ((RB1.out.keep fun _ hp => hb.cell hp).more hb.size); have TE1 := hx_; clear ho hb hc_ hr_ TE0 hx_))
    | (go_at_call 39; go_must (refine (rEncodeStep_any w2 cs r ns ad lk An Aa Al cn na ca nl cl (SX2.out)).mono ?_; rintro e w3 ⟨v, rfl, ho, hb⟩; rw [HE.out]; rw [HSB.out] at ho; obtain ⟨A3, c3, rfl, hc_, hr_⟩ := own8_form ho; have RT3 := Lib.hid (hr_); have C3 := Lib.hid (hc_); have X3 := Lib.hid (heap_below X2.out hb); have D3 := Lib.hid (D2.out.trans (hb.mono D2.out.size)); have SX3 := Lib.hid (SX2.out.below hb); have RB3 := Lib.hid ((RB2.out.keep fun _ hp => hb.cell hp).more hb.size); have RS3 := Lib.hid ((RS2.out.keep fun _ hp => hb.cell hp).more hb.size); clear ho hb hc_ hr_))
    | (go_at_call 40; have hx_ := TD0; go_must (refine (DecodeStep_p A c l _ (RB3.out) Hc.out Hm.out).mono ?_; rintro e w4 ⟨Yc, AY1, AY2, AY3, nY1, nY2, nY3, nY4, nY5, rfl, hy, oy, hb⟩; rw [HF.out]; have YS := Lib.hid (hy.size); have YO := Lib.hid (oy); have rn := row_new w4 Zz Yc 66; have SY4 := Lib.hid (hy.below rn.1); have Y4 := Lib.hid (rn.2.1); have AN4 := Lib.hid (heap_alloc_new w4 (.cells Zz 66)); have hb2 := hb.trans (rn.1.mono hb.size); have X4 := Lib.hid (heap_below X3.out hb2); have D4 := Lib.hid (D3.out.trans (hb2.mono D3.out.size)); have SX4 := Lib.hid (SX3.out.below hb2); have RB4 := Lib.hid ((RB3.out.keep fun _ hp => hb2.cell hp).more hb2.size); have RS4 := Lib.hid ((RS3.out.keep fun _ hp => hb2.cell hp).more hb2.size); have RT4 := Lib.hid ((RT3.out.keep fun _ hp => hb2.cell hp).more hb2.size); have TD1 := hx_; clear TD0 hx_; clear hy oy rn hb hb2))
    | (go_at_call 41; go_must (refine (rDecodeStep_p A c l _ (RB4.out) Hc.out Hm.out).mono ?_; rintro e w5 ⟨Zc, AZ1, AZ2, AZ3, nZ1, nZ2, nZ3, nZ4, nZ5, rfl, hy, oy, hb⟩; rw [HF.out]; have ZS := Lib.hid (hy.size); have ZO := Lib.hid (oy); have rn := row_new w5 Zz Zc 66; have SZ5 := Lib.hid (hy.below rn.1); have Z5 := Lib.hid (rn.2.1); have AN5 := Lib.hid (heap_alloc_new w5 (.cells Zz 66)); have hb2 := hb.trans (rn.1.mono hb.size); have X5 := Lib.hid (heap_below X4.out hb2); have D5 := Lib.hid (D4.out.trans (hb2.mono D4.out.size)); have SX5 := Lib.hid (SX4.out.below hb2); have RB5 := Lib.hid ((RB4.out.keep fun _ hp => hb2.cell hp).more hb2.size); have RS5 := Lib.hid ((RS4.out.keep fun _ hp => hb2.cell hp).more hb2.size); have RT5 := Lib.hid ((RT4.out.keep fun _ hp => hb2.cell hp).more hb2.size); have Y5 := Lib.hid (heap_below Y4.out hb2); have SY5 := Lib.hid (SY4.out.below hb2); have hs2 := run_str8 RS5.out c2; have hs3 := run_str8 RT5.out c3; clear hy oy rn hb hb2))
    | (go_at_call 42; have hx_ := TS0; go_must (refine (SameStep_any _ Yc Zc (stepR l).1 (stepR l).2.1 (stepR l).2.2.1 (stepR l).2.2.2 AY1 AY2 AY3 nY1 nY2 nY3 nY4 nY5 AZ1 AZ2 AZ3 nZ1 nZ2 nZ3 nZ4 nZ5 SY5.out SZ5.out).mono ?_; rintro e w6 ⟨rfl, hb⟩; have X6 := Lib.hid (heap_below X5.out hb); have D6 := Lib.hid (D5.out.trans (hb.mono D5.out.size)); have SX6 := Lib.hid (SX5.out.below hb); have RB6 := Lib.hid ((RB5.out.keep fun _ hp => hb.cell hp).more hb.size); have RS6 := Lib.hid ((RS5.out.keep fun _ hp => hb.cell hp).more hb.size); have Y6 := Lib.hid (heap_below Y5.out hb); have SY6 := Lib.hid (SY5.out.below hb); have TS1 := hx_; clear hb TS0 hx_ hs2 hs3))
    | (refine wpList_store_row rfl _ _ _ rfl w4.heap.size Yc rfl rfl 66 Zz (by with_reducible exact AN4.out) (by rw [YS.out]; kernel_rfl) (by rw [YS.out, HZz.out]) (by exact YO.out) ?_)
    | (refine wpList_store_row rfl _ _ _ rfl w5.heap.size Zc rfl rfl 66 Zz (by with_reducible exact AN5.out) (by rw [ZS.out]; kernel_rfl) (by rw [ZS.out, HZz.out]) (by exact ZO.out) ?_)
    | (refine wpList_load_step (by kernel_rfl) _ rfl _ cs (by with_reducible exact range_row X1.out) XS.out rfl rfl ?_)
    | (refine wpList_load_step (by kernel_rfl) _ rfl _ cs (by with_reducible exact range_row X2.out) XS.out rfl rfl ?_)
    | (refine wpList_load_step (by kernel_rfl) _ rfl _ Yc (by with_reducible exact range_row Y5.out) YS.out rfl rfl ?_)
    | (refine wpList_load_step (by kernel_rfl) _ rfl _ Zc (by with_reducible exact range_row Z5.out) ZS.out rfl rfl ?_)
    | (refine wpList_load_step (by kernel_rfl) _ rfl _ Yc (by with_reducible exact range_row Y6.out) YS.out rfl rfl ?_))
  all_goals (first | go_ret | (refine bodyPost_ret (v := .bool true) (by simp [results, Try.results11]) rfl ?_))
  all_goals exact ⟨rfl, D7.out⟩
set_option maxRecDepth 100000 in
set_option maxHeartbeats 4000000 in
theorem WireSteps_12 (w : World) (cs : Array Value) (r : RootV) (ns : List NodeV) (ad lk : List UInt8) (An Aa Al : Option Addr) (cn na ca nl cl : Nat) (hs : StepIn w cs r ns ad lk An Aa Al cn na ca nl cl) (v1 : Value) (l : List UInt8) (a1 : ArgB w v1 l) (hE : stepE r ns ad lk = 1) (hF : stepF l = 2) : Calls Try.prog 11 #[.agg cs, v1] w fun e w' => e = .returned (.bool true) ∧ Below w.heap.size w w' := by
  obtain ⟨A, c, rfl, hc, hrd, hm⟩ := a1
  rw [reach_eq] at hm
  have hm' : l.length ≤ 140737488355328 := by omega
  obtain ⟨Zz, hZ⟩ : ∃ Z : Array Value, Z = stepZ := ⟨_, rfl⟩
  have hz := hz66
  rw [← hZ] at hz
  have HZz : Hid (Zz.size = 166) := by show _ = _; rw [hZ]; exact stepZ_size
  have HE := Lib.hid hE
  have HF := Lib.hid hF
  have hno := step_none (r := r) (ns := ns) (ad := ad) (lk := lk) (by rw [hE]; decide)
  obtain ⟨S, hS⟩ : ∃ S : List UInt8, S = stepB r ns ad lk := ⟨_, rfl⟩
  rw [← hS] at hno
  have HSB : Hid (stepB r ns ad lk = S) := hS.symm
  have hl0 : (((S.length : Nat) : Int) == 0) = true := by rw [hno]; rfl
  clear hno hS
  have XS : Hid (cs.size = 166) := hs.size
  have X0 : Hid ((w.alloc (.cells cs 66)).heap[w.heap.size]? = some (.cells cs 66 (0, 0))) := heap_alloc_new w _
  have D0 : Hid (Below w.heap.size w (w.alloc (.cells cs 66))) := (Below.refl _ _).alloc (Nat.le_refl _) _
  have SX0 := Lib.hid (hs.below D0.out)
  have RB0 := Lib.hid ((hrd.keep fun _ hp => D0.out.cell hp).more D0.out.size)
  have Hc := Lib.hid hc
  have Hm := Lib.hid hm'
  clear hm hm' hs hrd hc hZ hE hF
  have TD0 : Hid True := trivial
  have TE0 : Hid True := trivial
  have TS0 : Hid True := trivial
  go_enter Try.func11, Try.ntmps11
  go_wp2_with (first
    | (go_at_call 12; go_must (refine (awake_any _).mono ?_; rintro e w1 ⟨rfl, hb⟩; have X1 := Lib.hid (heap_below X0.out hb); have D1 := Lib.hid (D0.out.trans (hb.mono D0.out.size)); have SX1 := Lib.hid (SX0.out.below hb); have RB1 := Lib.hid ((RB0.out.keep fun _ hp => hb.cell hp).more hb.size); clear hb))
    | (go_at_call 38; have hx_ := TE0; go_must (refine (EncodeStep_any w1 cs r ns ad lk An Aa Al cn na ca nl cl (SX1.out)).mono ?_; rintro e w2 ⟨v, rfl, ho, hb⟩; rw [HE.out]; rw [HSB.out] at ho; obtain ⟨A2, c2, rfl, hc_, hr_⟩ := own8_form ho; have RS2 := Lib.hid (hr_); have C2 := Lib.hid (hc_); have X2 := Lib.hid (heap_below X1.out hb); have D2 := Lib.hid (D1.out.trans (hb.mono D1.out.size)); have SX2 := Lib.hid (SX1.out.below hb); have RB2 := Lib.hid ((RB1.out.keep fun _ hp => hb.cell hp).more hb.size); have TE1 := hx_; clear ho hb hc_ hr_ TE0 hx_))
    | (go_at_call 39; go_must (refine (rEncodeStep_any w2 cs r ns ad lk An Aa Al cn na ca nl cl (SX2.out)).mono ?_; rintro e w3 ⟨v, rfl, ho, hb⟩; rw [HE.out]; rw [HSB.out] at ho; obtain ⟨A3, c3, rfl, hc_, hr_⟩ := own8_form ho; have RT3 := Lib.hid (hr_); have C3 := Lib.hid (hc_); have X3 := Lib.hid (heap_below X2.out hb); have D3 := Lib.hid (D2.out.trans (hb.mono D2.out.size)); have SX3 := Lib.hid (SX2.out.below hb); have RB3 := Lib.hid ((RB2.out.keep fun _ hp => hb.cell hp).more hb.size); have RS3 := Lib.hid ((RS2.out.keep fun _ hp => hb.cell hp).more hb.size); clear ho hb hc_ hr_))
    | (go_at_call 40; have hx_ := TD0; go_must (refine (DecodeStep_p A c l _ (RB3.out) Hc.out Hm.out).mono ?_; rintro e w4 ⟨Yc, AY1, AY2, AY3, nY1, nY2, nY3, nY4, nY5, rfl, hy, oy, hb⟩; rw [HF.out]; have YS := Lib.hid (hy.size); have YO := Lib.hid (oy); have rn := row_new w4 Zz Yc 66; have SY4 := Lib.hid (hy.below rn.1); have Y4 := Lib.hid (rn.2.1); have AN4 := Lib.hid (heap_alloc_new w4 (.cells Zz 66)); have hb2 := hb.trans (rn.1.mono hb.size); have X4 := Lib.hid (heap_below X3.out hb2); have D4 := Lib.hid (D3.out.trans (hb2.mono D3.out.size)); have SX4 := Lib.hid (SX3.out.below hb2); have RB4 := Lib.hid ((RB3.out.keep fun _ hp => hb2.cell hp).more hb2.size); have RS4 := Lib.hid ((RS3.out.keep fun _ hp => hb2.cell hp).more hb2.size); have RT4 := Lib.hid ((RT3.out.keep fun _ hp => hb2.cell hp).more hb2.size); have TD1 := hx_; clear TD0 hx_; clear hy oy rn hb hb2))
    | (go_at_call 41; go_must (refine (rDecodeStep_p A c l _ (RB4.out) Hc.out Hm.out).mono ?_; rintro e w5 ⟨Zc, AZ1, AZ2, AZ3, nZ1, nZ2, nZ3, nZ4, nZ5, rfl, hy, oy, hb⟩; rw [HF.out]; have ZS := Lib.hid (hy.size); have ZO := Lib.hid (oy); have rn := row_new w5 Zz Zc 66; have SZ5 := Lib.hid (hy.below rn.1); have Z5 := Lib.hid (rn.2.1); have AN5 := Lib.hid (heap_alloc_new w5 (.cells Zz 66)); have hb2 := hb.trans (rn.1.mono hb.size); have X5 := Lib.hid (heap_below X4.out hb2); have D5 := Lib.hid (D4.out.trans (hb2.mono D4.out.size)); have SX5 := Lib.hid (SX4.out.below hb2); have RB5 := Lib.hid ((RB4.out.keep fun _ hp => hb2.cell hp).more hb2.size); have RS5 := Lib.hid ((RS4.out.keep fun _ hp => hb2.cell hp).more hb2.size); have RT5 := Lib.hid ((RT4.out.keep fun _ hp => hb2.cell hp).more hb2.size); have Y5 := Lib.hid (heap_below Y4.out hb2); have SY5 := Lib.hid (SY4.out.below hb2); have hs2 := run_str8 RS5.out c2; have hs3 := run_str8 RT5.out c3; clear hy oy rn hb hb2))
    | (go_at_call 42; have hx_ := TS0; go_must (refine (SameStep_any _ Yc Zc (stepR l).1 (stepR l).2.1 (stepR l).2.2.1 (stepR l).2.2.2 AY1 AY2 AY3 nY1 nY2 nY3 nY4 nY5 AZ1 AZ2 AZ3 nZ1 nZ2 nZ3 nZ4 nZ5 SY5.out SZ5.out).mono ?_; rintro e w6 ⟨rfl, hb⟩; have X6 := Lib.hid (heap_below X5.out hb); have D6 := Lib.hid (D5.out.trans (hb.mono D5.out.size)); have SX6 := Lib.hid (SX5.out.below hb); have RB6 := Lib.hid ((RB5.out.keep fun _ hp => hb.cell hp).more hb.size); have RS6 := Lib.hid ((RS5.out.keep fun _ hp => hb.cell hp).more hb.size); have Y6 := Lib.hid (heap_below Y5.out hb); have SY6 := Lib.hid (SY5.out.below hb); have TS1 := hx_; clear hb TS0 hx_ hs2 hs3))
    | (refine wpList_store_row rfl _ _ _ rfl w4.heap.size Yc rfl rfl 66 Zz (by with_reducible exact AN4.out) (by rw [YS.out]; kernel_rfl) (by rw [YS.out, HZz.out]) (by exact YO.out) ?_)
    | (refine wpList_store_row rfl _ _ _ rfl w5.heap.size Zc rfl rfl 66 Zz (by with_reducible exact AN5.out) (by rw [ZS.out]; kernel_rfl) (by rw [ZS.out, HZz.out]) (by exact ZO.out) ?_)
    | (refine wpList_load_step (by kernel_rfl) _ rfl _ cs (by with_reducible exact range_row X1.out) XS.out rfl rfl ?_)
    | (refine wpList_load_step (by kernel_rfl) _ rfl _ cs (by with_reducible exact range_row X2.out) XS.out rfl rfl ?_)
    | (refine wpList_load_step (by kernel_rfl) _ rfl _ Yc (by with_reducible exact range_row Y5.out) YS.out rfl rfl ?_)
    | (refine wpList_load_step (by kernel_rfl) _ rfl _ Zc (by with_reducible exact range_row Z5.out) ZS.out rfl rfl ?_))
  all_goals (first | go_ret | (refine bodyPost_ret (v := .bool true) (by simp [results, Try.results11]) rfl ?_))
  all_goals exact ⟨rfl, D6.out⟩
set_option maxRecDepth 100000 in
set_option maxHeartbeats 4000000 in
theorem WireSteps_60 (w : World) (cs : Array Value) (r : RootV) (ns : List NodeV) (ad lk : List UInt8) (An Aa Al : Option Addr) (cn na ca nl cl : Nat) (hs : StepIn w cs r ns ad lk An Aa Al cn na ca nl cl) (v1 : Value) (l : List UInt8) (a1 : ArgB w v1 l) (hE : stepE r ns ad lk = 6) (hF : stepF l = 0) : Calls Try.prog 11 #[.agg cs, v1] w fun e w' => e = .returned (.bool true) ∧ Below w.heap.size w w' := by
  obtain ⟨A, c, rfl, hc, hrd, hm⟩ := a1
  rw [reach_eq] at hm
  have hm' : l.length ≤ 140737488355328 := by omega
  obtain ⟨Zz, hZ⟩ : ∃ Z : Array Value, Z = stepZ := ⟨_, rfl⟩
  have hz := hz66
  rw [← hZ] at hz
  have HZz : Hid (Zz.size = 166) := by show _ = _; rw [hZ]; exact stepZ_size
  have HE := Lib.hid hE
  have HF := Lib.hid hF
  have hno := step_none (r := r) (ns := ns) (ad := ad) (lk := lk) (by rw [hE]; decide)
  obtain ⟨S, hS⟩ : ∃ S : List UInt8, S = stepB r ns ad lk := ⟨_, rfl⟩
  rw [← hS] at hno
  have HSB : Hid (stepB r ns ad lk = S) := hS.symm
  have hl0 : (((S.length : Nat) : Int) == 0) = true := by rw [hno]; rfl
  clear hno hS
  have HBK := Lib.hid (step_back (r := (stepR l).1) (ns := (stepR l).2.1) (ad := (stepR l).2.2.1) (lk := (stepR l).2.2.2) (stepR_of hF))
  have XS : Hid (cs.size = 166) := hs.size
  have X0 : Hid ((w.alloc (.cells cs 66)).heap[w.heap.size]? = some (.cells cs 66 (0, 0))) := heap_alloc_new w _
  have D0 : Hid (Below w.heap.size w (w.alloc (.cells cs 66))) := (Below.refl _ _).alloc (Nat.le_refl _) _
  have SX0 := Lib.hid (hs.below D0.out)
  have RB0 := Lib.hid ((hrd.keep fun _ hp => D0.out.cell hp).more D0.out.size)
  have Hc := Lib.hid hc
  have Hm := Lib.hid hm'
  clear hm hm' hs hrd hc hZ hE hF
  have TD0 : Hid True := trivial
  have TE0 : Hid True := trivial
  have TS0 : Hid True := trivial
  go_enter Try.func11, Try.ntmps11
  go_wp2_with (first
    | (go_at_call 12; go_must (refine (awake_any _).mono ?_; rintro e w1 ⟨rfl, hb⟩; have X1 := Lib.hid (heap_below X0.out hb); have D1 := Lib.hid (D0.out.trans (hb.mono D0.out.size)); have SX1 := Lib.hid (SX0.out.below hb); have RB1 := Lib.hid ((RB0.out.keep fun _ hp => hb.cell hp).more hb.size); clear hb))
    | (go_at_call 38; have hx_ := TE1; go_must (refine (EncodeStep_any w6 Yc (stepR l).1 (stepR l).2.1 (stepR l).2.2.1 (stepR l).2.2.2 AY1 AY2 AY3 nY1 nY2 nY3 nY4 nY5 (SY6.out)).mono ?_; rintro e w7 ⟨v, rfl, ho, hb⟩; rw [HBK.out.2.1]; rw [HBK.out.1] at ho; obtain ⟨A7, c7, rfl, hc_, hr_⟩ := own8_form ho; have X7 := Lib.hid (heap_below X6.out hb); have D7 := Lib.hid (D6.out.trans (hb.mono D6.out.size)); have SX7 := Lib.hid (SX6.out.below hb); have RB7 := Lib.hid ((RB6.out.keep fun _ hp => hb.cell hp).more hb.size); have hsu := run_str8 hr_ c7; have hsb := run_str8 RB7.out c; clear ho hb hc_ hr_ TE1 hx_))
    | (go_at_call 38; have hx_ := TE0; go_must (refine (EncodeStep_any w1 cs r ns ad lk An Aa Al cn na ca nl cl (SX1.out)).mono ?_; rintro e w2 ⟨v, rfl, ho, hb⟩; rw [HE.out]; rw [HSB.out] at ho; obtain ⟨A2, c2, rfl, hc_, hr_⟩ := own8_form ho; have RS2 := Lib.hid (hr_); have C2 := Lib.hid (hc_); have X2 := Lib.hid (heap_below X1.out hb); have D2 := Lib.hid (D1.out.trans (hb.mono D1.out.size)); have SX2 := Lib.hid (SX1.out.below hb); have RB2 := Lib.hid ((RB1.out.keep fun _ hp => hb.cell hp).more hb.size); have TE1 := hx_; clear ho hb hc_ hr_ TE0 hx_))
    | (go_at_call 39; go_must (refine (rEncodeStep_any w2 cs r ns ad lk An Aa Al cn na ca nl cl (SX2.out)).mono ?_; rintro e w3 ⟨v, rfl, ho, hb⟩; rw [HE.out]; rw [HSB.out] at ho; obtain ⟨A3, c3, rfl, hc_, hr_⟩ := own8_form ho; have RT3 := Lib.hid (hr_); have C3 := Lib.hid (hc_); have X3 := Lib.hid (heap_below X2.out hb); have D3 := Lib.hid (D2.out.trans (hb.mono D2.out.size)); have SX3 := Lib.hid (SX2.out.below hb); have RB3 := Lib.hid ((RB2.out.keep fun _ hp => hb.cell hp).more hb.size); have RS3 := Lib.hid ((RS2.out.keep fun _ hp => hb.cell hp).more hb.size); clear ho hb hc_ hr_))
    | (go_at_call 40; have hx_ := TD0; go_must (refine (DecodeStep_p A c l _ (RB3.out) Hc.out Hm.out).mono ?_; rintro e w4 ⟨Yc, AY1, AY2, AY3, nY1, nY2, nY3, nY4, nY5, rfl, hy, oy, hb⟩; rw [HF.out]; have YS := Lib.hid (hy.size); have YO := Lib.hid (oy); have rn := row_new w4 Zz Yc 66; have SY4 := Lib.hid (hy.below rn.1); have Y4 := Lib.hid (rn.2.1); have AN4 := Lib.hid (heap_alloc_new w4 (.cells Zz 66)); have hb2 := hb.trans (rn.1.mono hb.size); have X4 := Lib.hid (heap_below X3.out hb2); have D4 := Lib.hid (D3.out.trans (hb2.mono D3.out.size)); have SX4 := Lib.hid (SX3.out.below hb2); have RB4 := Lib.hid ((RB3.out.keep fun _ hp => hb2.cell hp).more hb2.size); have RS4 := Lib.hid ((RS3.out.keep fun _ hp => hb2.cell hp).more hb2.size); have RT4 := Lib.hid ((RT3.out.keep fun _ hp => hb2.cell hp).more hb2.size); have TD1 := hx_; clear TD0 hx_; clear hy oy rn hb hb2))
    | (go_at_call 41; go_must (refine (rDecodeStep_p A c l _ (RB4.out) Hc.out Hm.out).mono ?_; rintro e w5 ⟨Zc, AZ1, AZ2, AZ3, nZ1, nZ2, nZ3, nZ4, nZ5, rfl, hy, oy, hb⟩; rw [HF.out]; have ZS := Lib.hid (hy.size); have ZO := Lib.hid (oy); have rn := row_new w5 Zz Zc 66; have SZ5 := Lib.hid (hy.below rn.1); have Z5 := Lib.hid (rn.2.1); have AN5 := Lib.hid (heap_alloc_new w5 (.cells Zz 66)); have hb2 := hb.trans (rn.1.mono hb.size); have X5 := Lib.hid (heap_below X4.out hb2); have D5 := Lib.hid (D4.out.trans (hb2.mono D4.out.size)); have SX5 := Lib.hid (SX4.out.below hb2); have RB5 := Lib.hid ((RB4.out.keep fun _ hp => hb2.cell hp).more hb2.size); have RS5 := Lib.hid ((RS4.out.keep fun _ hp => hb2.cell hp).more hb2.size); have RT5 := Lib.hid ((RT4.out.keep fun _ hp => hb2.cell hp).more hb2.size); have Y5 := Lib.hid (heap_below Y4.out hb2); have SY5 := Lib.hid (SY4.out.below hb2); have hs2 := run_str8 RS5.out c2; have hs3 := run_str8 RT5.out c3; clear hy oy rn hb hb2))
    | (go_at_call 42; have hx_ := TS0; go_must (refine (SameStep_any _ Yc Zc (stepR l).1 (stepR l).2.1 (stepR l).2.2.1 (stepR l).2.2.2 AY1 AY2 AY3 nY1 nY2 nY3 nY4 nY5 AZ1 AZ2 AZ3 nZ1 nZ2 nZ3 nZ4 nZ5 SY5.out SZ5.out).mono ?_; rintro e w6 ⟨rfl, hb⟩; have X6 := Lib.hid (heap_below X5.out hb); have D6 := Lib.hid (D5.out.trans (hb.mono D5.out.size)); have SX6 := Lib.hid (SX5.out.below hb); have RB6 := Lib.hid ((RB5.out.keep fun _ hp => hb.cell hp).more hb.size); have RS6 := Lib.hid ((RS5.out.keep fun _ hp => hb.cell hp).more hb.size); have Y6 := Lib.hid (heap_below Y5.out hb); have SY6 := Lib.hid (SY5.out.below hb); have TS1 := hx_; clear hb TS0 hx_ hs2 hs3))
    | (refine wpList_store_row rfl _ _ _ rfl w4.heap.size Yc rfl rfl 66 Zz (by with_reducible exact AN4.out) (by rw [YS.out]; kernel_rfl) (by rw [YS.out, HZz.out]) (by exact YO.out) ?_)
    | (refine wpList_store_row rfl _ _ _ rfl w5.heap.size Zc rfl rfl 66 Zz (by with_reducible exact AN5.out) (by rw [ZS.out]; kernel_rfl) (by rw [ZS.out, HZz.out]) (by exact ZO.out) ?_)
    | (refine wpList_load_step (by kernel_rfl) _ rfl _ cs (by with_reducible exact range_row X1.out) XS.out rfl rfl ?_)
    | (refine wpList_load_step (by kernel_rfl) _ rfl _ cs (by with_reducible exact range_row X2.out) XS.out rfl rfl ?_)
    | (refine wpList_load_step (by kernel_rfl) _ rfl _ Yc (by with_reducible exact range_row Y5.out) YS.out rfl rfl ?_)
    | (refine wpList_load_step (by kernel_rfl) _ rfl _ Zc (by with_reducible exact range_row Z5.out) ZS.out rfl rfl ?_)
    | (refine wpList_load_step (by kernel_rfl) _ rfl _ Yc (by with_reducible exact range_row Y6.out) YS.out rfl rfl ?_))
  all_goals (first | go_ret | (refine bodyPost_ret (v := .bool true) (by simp [results, Try.results11]) rfl ?_))
  all_goals exact ⟨rfl, D7.out⟩
set_option maxRecDepth 100000 in
set_option maxHeartbeats 4000000 in
theorem WireSteps_62 (w : World) (cs : Array Value) (r : RootV) (ns : List NodeV) (ad lk : List UInt8) (An Aa Al : Option Addr) (cn na ca nl cl : Nat) (hs : StepIn w cs r ns ad lk An Aa Al cn na ca nl cl) (v1 : Value) (l : List UInt8) (a1 : ArgB w v1 l) (hE : stepE r ns ad lk = 6) (hF : stepF l = 2) : Calls Try.prog 11 #[.agg cs, v1] w fun e w' => e = .returned (.bool true) ∧ Below w.heap.size w w' := by
  obtain ⟨A, c, rfl, hc, hrd, hm⟩ := a1
  rw [reach_eq] at hm
  have hm' : l.length ≤ 140737488355328 := by omega
  obtain ⟨Zz, hZ⟩ : ∃ Z : Array Value, Z = stepZ := ⟨_, rfl⟩
  have hz := hz66
  rw [← hZ] at hz
  have HZz : Hid (Zz.size = 166) := by show _ = _; rw [hZ]; exact stepZ_size
  have HE := Lib.hid hE
  have HF := Lib.hid hF
  have hno := step_none (r := r) (ns := ns) (ad := ad) (lk := lk) (by rw [hE]; decide)
  obtain ⟨S, hS⟩ : ∃ S : List UInt8, S = stepB r ns ad lk := ⟨_, rfl⟩
  rw [← hS] at hno
  have HSB : Hid (stepB r ns ad lk = S) := hS.symm
  have hl0 : (((S.length : Nat) : Int) == 0) = true := by rw [hno]; rfl
  clear hno hS
  have XS : Hid (cs.size = 166) := hs.size
  have X0 : Hid ((w.alloc (.cells cs 66)).heap[w.heap.size]? = some (.cells cs 66 (0, 0))) := heap_alloc_new w _
  have D0 : Hid (Below w.heap.size w (w.alloc (.cells cs 66))) := (Below.refl _ _).alloc (Nat.le_refl _) _
  have SX0 := Lib.hid (hs.below D0.out)
  have RB0 := Lib.hid ((hrd.keep fun _ hp => D0.out.cell hp).more D0.out.size)
  have Hc := Lib.hid hc
  have Hm := Lib.hid hm'
  clear hm hm' hs hrd hc hZ hE hF
  have TD0 : Hid True := trivial
  have TE0 : Hid True := trivial
  have TS0 : Hid True := trivial
  go_enter Try.func11, Try.ntmps11
  go_wp2_with (first
    | (go_at_call 12; go_must (refine (awake_any _).mono ?_; rintro e w1 ⟨rfl, hb⟩; have X1 := Lib.hid (heap_below X0.out hb); have D1 := Lib.hid (D0.out.trans (hb.mono D0.out.size)); have SX1 := Lib.hid (SX0.out.below hb); have RB1 := Lib.hid ((RB0.out.keep fun _ hp => hb.cell hp).more hb.size); clear hb))
    | (go_at_call 38; have hx_ := TE0; go_must (refine (EncodeStep_any w1 cs r ns ad lk An Aa Al cn na ca nl cl (SX1.out)).mono ?_; rintro e w2 ⟨v, rfl, ho, hb⟩; rw [HE.out]; rw [HSB.out] at ho; obtain ⟨A2, c2, rfl, hc_, hr_⟩ := own8_form ho; have RS2 := Lib.hid (hr_); have C2 := Lib.hid (hc_); have X2 := Lib.hid (heap_below X1.out hb); have D2 := Lib.hid (D1.out.trans (hb.mono D1.out.size)); have SX2 := Lib.hid (SX1.out.below hb); have RB2 := Lib.hid ((RB1.out.keep fun _ hp => hb.cell hp).more hb.size); have TE1 := hx_; clear ho hb hc_ hr_ TE0 hx_))
    | (go_at_call 39; go_must (refine (rEncodeStep_any w2 cs r ns ad lk An Aa Al cn na ca nl cl (SX2.out)).mono ?_; rintro e w3 ⟨v, rfl, ho, hb⟩; rw [HE.out]; rw [HSB.out] at ho; obtain ⟨A3, c3, rfl, hc_, hr_⟩ := own8_form ho; have RT3 := Lib.hid (hr_); have C3 := Lib.hid (hc_); have X3 := Lib.hid (heap_below X2.out hb); have D3 := Lib.hid (D2.out.trans (hb.mono D2.out.size)); have SX3 := Lib.hid (SX2.out.below hb); have RB3 := Lib.hid ((RB2.out.keep fun _ hp => hb.cell hp).more hb.size); have RS3 := Lib.hid ((RS2.out.keep fun _ hp => hb.cell hp).more hb.size); clear ho hb hc_ hr_))
    | (go_at_call 40; have hx_ := TD0; go_must (refine (DecodeStep_p A c l _ (RB3.out) Hc.out Hm.out).mono ?_; rintro e w4 ⟨Yc, AY1, AY2, AY3, nY1, nY2, nY3, nY4, nY5, rfl, hy, oy, hb⟩; rw [HF.out]; have YS := Lib.hid (hy.size); have YO := Lib.hid (oy); have rn := row_new w4 Zz Yc 66; have SY4 := Lib.hid (hy.below rn.1); have Y4 := Lib.hid (rn.2.1); have AN4 := Lib.hid (heap_alloc_new w4 (.cells Zz 66)); have hb2 := hb.trans (rn.1.mono hb.size); have X4 := Lib.hid (heap_below X3.out hb2); have D4 := Lib.hid (D3.out.trans (hb2.mono D3.out.size)); have SX4 := Lib.hid (SX3.out.below hb2); have RB4 := Lib.hid ((RB3.out.keep fun _ hp => hb2.cell hp).more hb2.size); have RS4 := Lib.hid ((RS3.out.keep fun _ hp => hb2.cell hp).more hb2.size); have RT4 := Lib.hid ((RT3.out.keep fun _ hp => hb2.cell hp).more hb2.size); have TD1 := hx_; clear TD0 hx_; clear hy oy rn hb hb2))
    | (go_at_call 41; go_must (refine (rDecodeStep_p A c l _ (RB4.out) Hc.out Hm.out).mono ?_; rintro e w5 ⟨Zc, AZ1, AZ2, AZ3, nZ1, nZ2, nZ3, nZ4, nZ5, rfl, hy, oy, hb⟩; rw [HF.out]; have ZS := Lib.hid (hy.size); have ZO := Lib.hid (oy); have rn := row_new w5 Zz Zc 66; have SZ5 := Lib.hid (hy.below rn.1); have Z5 := Lib.hid (rn.2.1); have AN5 := Lib.hid (heap_alloc_new w5 (.cells Zz 66)); have hb2 := hb.trans (rn.1.mono hb.size); have X5 := Lib.hid (heap_below X4.out hb2); have D5 := Lib.hid (D4.out.trans (hb2.mono D4.out.size)); have SX5 := Lib.hid (SX4.out.below hb2); have RB5 := Lib.hid ((RB4.out.keep fun _ hp => hb2.cell hp).more hb2.size); have RS5 := Lib.hid ((RS4.out.keep fun _ hp => hb2.cell hp).more hb2.size); have RT5 := Lib.hid ((RT4.out.keep fun _ hp => hb2.cell hp).more hb2.size); have Y5 := Lib.hid (heap_below Y4.out hb2); have SY5 := Lib.hid (SY4.out.below hb2); have hs2 := run_str8 RS5.out c2; have hs3 := run_str8 RT5.out c3; clear hy oy rn hb hb2))
    | (go_at_call 42; have hx_ := TS0; go_must (refine (SameStep_any _ Yc Zc (stepR l).1 (stepR l).2.1 (stepR l).2.2.1 (stepR l).2.2.2 AY1 AY2 AY3 nY1 nY2 nY3 nY4 nY5 AZ1 AZ2 AZ3 nZ1 nZ2 nZ3 nZ4 nZ5 SY5.out SZ5.out).mono ?_; rintro e w6 ⟨rfl, hb⟩; have X6 := Lib.hid (heap_below X5.out hb); have D6 := Lib.hid (D5.out.trans (hb.mono D5.out.size)); have SX6 := Lib.hid (SX5.out.below hb); have RB6 := Lib.hid ((RB5.out.keep fun _ hp => hb.cell hp).more hb.size); have RS6 := Lib.hid ((RS5.out.keep fun _ hp => hb.cell hp).more hb.size); have Y6 := Lib.hid (heap_below Y5.out hb); have SY6 := Lib.hid (SY5.out.below hb); have TS1 := hx_; clear hb TS0 hx_ hs2 hs3))
    | (refine wpList_store_row rfl _ _ _ rfl w4.heap.size Yc rfl rfl 66 Zz (by with_reducible exact AN4.out) (by rw [YS.out]; kernel_rfl) (by rw [YS.out, HZz.out]) (by exact YO.out) ?_)
    | (refine wpList_store_row rfl _ _ _ rfl w5.heap.size Zc rfl rfl 66 Zz (by with_reducible exact AN5.out) (by rw [ZS.out]; kernel_rfl) (by rw [ZS.out, HZz.out]) (by exact ZO.out) ?_)
    | (refine wpList_load_step (by kernel_rfl) _ rfl _ cs (by with_reducible exact range_row X1.out) XS.out rfl rfl ?_)
    | (refine wpList_load_step (by kernel_rfl) _ rfl _ cs (by with_reducible exact range_row X2.out) XS.out rfl rfl ?_)
    | (refine wpList_load_step (by kernel_rfl) _ rfl _ Yc (by with_reducible exact range_row Y5.out) YS.out rfl rfl ?_)
    | (refine wpList_load_step (by kernel_rfl) _ rfl _ Zc (by with_reducible exact range_row Z5.out) ZS.out rfl rfl ?_))
  all_goals (first | go_ret | (refine bodyPost_ret (v := .bool true) (by simp [results, Try.results11]) rfl ?_))
  all_goals exact ⟨rfl, D6.out⟩
theorem WireSteps_walk (v0 v1 : Value) (q : StepQ) (l : List UInt8) (w : World) (a0 : ArgStep w v0 q) (a1 : ArgB w v1 l) : Calls Try.prog 11 #[v0, v1] w fun e w' => e = .returned (.bool true) ∧ Below w.heap.size w w' := by
  obtain ⟨cs, An, Aa, Al, cn, na, ca, nl, cl, rfl, hs⟩ := a0
  rcases stepE_cases q.1 q.2.1 q.2.2.1 q.2.2.2 with hE | hE | hE <;> rcases stepF_cases l with hF | hF
  · exact WireSteps_00 w cs _ _ _ _ _ _ _ _ _ _ _ _ hs v1 l a1 hE hF
  · exact WireSteps_02 w cs _ _ _ _ _ _ _ _ _ _ _ _ hs v1 l a1 hE hF
  · exact WireSteps_10 w cs _ _ _ _ _ _ _ _ _ _ _ _ hs v1 l a1 hE hF
  · exact WireSteps_12 w cs _ _ _ _ _ _ _ _ _ _ _ _ hs v1 l a1 hE hF
  · exact WireSteps_60 w cs _ _ _ _ _ _ _ _ _ _ _ _ hs v1 l a1 hE hF
  · exact WireSteps_62 w cs _ _ _ _ _ _ _ _ _ _ _ _ hs v1 l a1 hE hF
end Go.Proofs.Ytbpgbihcihnieaa
