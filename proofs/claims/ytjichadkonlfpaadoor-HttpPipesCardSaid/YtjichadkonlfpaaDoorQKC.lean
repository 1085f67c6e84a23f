/- The texts K7a K7 of this work, merged by wip/merge.py. No conditions. -/
import Derived.Test.YtjichadkonlfpaaDoorQKB
namespace Go.Proofs.YtjichadkonlfpaaDoor
open Go.RowKit
theorem chunks_fuel (size : Nat) (h1 : 1 ≤ size) : ∀ (f : Nat) (b : List UInt8), b.length ≤ f → chunksP size f b = chunksP size b.length b
  | 0, b, h => by
    have : b = [] := List.eq_nil_of_length_eq_zero (by omega)
    subst this; rfl
  | f + 1, b, h => by
    by_cases hz : b = []
    · subst hz; simp [chunksP]
    · have hpos := List.length_pos_iff.2 hz
      obtain ⟨g, hg⟩ : ∃ g, b.length = g + 1 := ⟨b.length - 1, by omega⟩
      have hd : (b.drop (min size b.length)).length ≤ g := by rw [List.length_drop]; omega
      rw [chunksP, if_neg hz, chunks_fuel size h1 f _ (by rw [List.length_drop]; omega)]
      conv => rhs; rw [hg]
      rw [chunksP, if_neg hz, chunks_fuel size h1 g _ hd]
theorem chunks_step (size : Nat) (h1 : 1 ≤ size) (b : List UInt8) (hz : 0 < b.length) : chunksP size b.length b = hex3 (min size b.length) ++ [13, 10] ++ b.take (min size b.length) ++ [13, 10] ++ chunksP size (b.drop (min size b.length)).length (b.drop (min size b.length)) := by
  obtain ⟨g, hg⟩ : ∃ g, b.length = g + 1 := ⟨b.length - 1, by omega⟩
  have hne : b ≠ [] := by intro e; rw [e] at hz; simp at hz
  have hd : (b.drop (min size b.length)).length ≤ g := by rw [List.length_drop]; omega
  conv => lhs; rw [hg]
  rw [chunksP, if_neg hne, chunks_fuel size h1 g _ hd]
theorem chunks_nil (size : Nat) (b : List UInt8) (hz : b.length = 0) : chunksP size b.length b = [] := by
  have : b = [] := List.eq_nil_of_length_eq_zero hz
  subst this; rfl
theorem chunks_len (size : Nat) (h1 : 1 ≤ size) : ∀ (f : Nat) (b : List UInt8), (chunksP size f b).length ≤ 8 * b.length
  | 0, b => by simp [chunksP]
  | f + 1, b => by
    rw [chunksP]
    split
    · simp
    · rename_i hz
      have hpos := List.length_pos_iff.2 hz
      have := chunks_len size h1 f (b.drop (min size b.length))
      rw [List.length_drop] at this
      simp only [List.length_append, List.length_cons, List.length_nil, List.length_take, hex3]
      omega
/-- The rounds of wire: what is written, what is still to write. -/
def CI (size : Nat) (T0 : List UInt8) (w w1 wr : World) (A' : Option Addr) (r c' g nO cap : Nat) : Prop :=
  ∃ rem O : List UInt8, r = rem.length ∧ nO = O.length ∧ Reads w w.heap.size 1 A' r (bvs rem) ∧ r ≤ c' ∧ r ≤ 4096 ∧ O ++ chunksP size rem.length rem = T0 ∧ OwnT wr w1.heap.size (.slice (some ⟨g, 0, none⟩) nO cap) O ∧ Below w.heap.size w wr ∧ w1.heap.size ≤ wr.heap.size
theorem OwnT.below {w w' : World} {base : Nat} {v : Value} {l : List UInt8} (h : OwnT w base v l) (hb : Below w.heap.size w w') : OwnT w' base v l := by
  obtain ⟨g, cap, cur, fz, h1, h2, h3, h4⟩ := h
  exact ⟨g, cap, cur, fz, h1, h2, heap_below h3 hb, h4⟩
theorem wpList_idx_gen {P : Program} {ops : Array Oper} {rest : List Oper} {o : Oper} {a : Act} {w : World} {Q : Exit → Act → World → Prop} {x y : Operand} {t : TypeId} (ht : P.underlying t = some .string) (hg : o.guard = none) (ho : o.op = .index t x y) (s : ByteArray) (hx : a.eval x = .string s) (i : Int) (hy : a.eval y = .int .i64 i)
    (k : Nat) (hi : i = (k : Int)) (v : UInt8) (hk : s.data.toList[k]? = some v) (h : wpList P ops Q rest (a.put o.dst (.int .u8 (v.toNat : Int))) w) : wpList P ops Q (o :: rest) a w := by
  refine wpList_plain hg fun _ hK => ?_
  have h2 := hK _ _ h
  have hlt : k < s.size := by
    have := (List.getElem?_eq_some_iff.1 hk).1
    rw [Array.length_toList] at this
    exact this
  have hv : s[k]'hlt = v := by
    have h3 := (List.getElem?_eq_some_iff.1 hk).2
    rw [← h3]
    rfl
  subst hi
  unfold Oper.wp execOp
  simp only [ho, hx, hy, Sem.run_bind]
  rw [run_index_string w _ s _ _ ht, dif_pos (show (0 : Int) ≤ (k : Int) ∧ (k : Int) < (s.size : Int) from ⟨by omega, by omega⟩)]
  simp only [Int.toNat_natCast, hv, Result.andThen_ok]
  exact h2
theorem wpList_idx {ops : Array Oper} {rest : List Oper} {o : Oper} {a : Act} {w : World} {Q : Exit → Act → World → Prop} {x y : Operand} (hg : o.guard = none) (ho : o.op = .index 9 x y) (s : ByteArray) (hx : a.eval x = .string s) (i : Int) (hy : a.eval y = .int .i64 i)
    (k : Nat) (hi : i = (k : Int)) (v : UInt8) (hk : s.data.toList[k]? = some v) (h : wpList Tryd.prog ops Q rest (a.put o.dst (.int .u8 (v.toNat : Int))) w) : wpList Tryd.prog ops Q (o :: rest) a w :=
  wpList_idx_gen Tryd.underlying9 hg ho s hx i hy k hi v hk h
theorem hexAt : ∀ k : Fin 16, lowHex[k.val]? = some (lowHex.getD k.val 0) ∧ upHex[k.val]? = some (upHex.getD k.val 0) := by decide
end Go.Proofs.YtjichadkonlfpaaDoor

namespace Go.Proofs.YtjichadkonlfpaaDoor
open Go.RowKit
set_option maxRecDepth 100000 in
set_option maxHeartbeats 4000000 in
theorem wireC10 (m : MadeV) (A : Option Addr) (c : Nat) (w : World) (hp : m.path < 65536) (hr : Reads w w.heap.size 1 A m.body.length (bvs m.body)) (hcap : m.body.length ≤ c) (hl : m.body.length ≤ 140737488351232) (hpost : m.post = true) (hchd : m.chd = true) (hbig : m.body.length ≤ 4096) :
    Calls Tryd.prog 8 #[.agg #[.int .u16 (m.path : Int), .slice A m.body.length c, .int .u8 (m.ch.toNat : Int), .bool true, .bool true]] w (RPost (wireP m) w) := by
  have HR := Lib.hid hr
  have HL := Lib.hid hl
  obtain ⟨n0, hn0⟩ : ∃ n, n = m.body.length := ⟨_, rfl⟩
  rw [← hn0] at HR ⊢
  have HN0 := Lib.hid hn0
  have gb : decide ((4096 : Int) < (n0 : Int)) = false := by simp; omega
  have gc : (n0 : Int) ≤ (c : Int) := by omega
  have hnb : m.bd.length = n0 := by unfold MadeV.bd; rw [List.length_take]; omega
  have RB : Hid (Reads w w.heap.size 1 A n0 (bvs m.bd)) := by
    show Reads _ _ _ _ _ _
    have h1 := HR.out.take (k := n0) (by omega)
    rw [Nat.mul_one] at h1
    rw [show bvs m.bd = (bvs m.body).take n0 from by unfold MadeV.bd; rw [List.take_of_length_le (by omega), List.take_of_length_le (by rw [bvs_length]; omega)]]
    exact h1
  have HNB := Lib.hid hnb
  obtain ⟨pn, hpn⟩ : ∃ p, p = m.path := ⟨_, rfl⟩
  rw [← hpn] at hp ⊢
  have HPN := Lib.hid hpn
  have hpI : (pn : Int) ≤ 65535 := by omega
  obtain ⟨dv, hdv⟩ : ∃ dv : ByteArray, dv = ⟨(Lib.decDigits pn).toArray⟩ := ⟨_, rfl⟩
  have hds : dv.size = (Lib.decDigits pn).length := by rw [hdv]; simp [ByteArray.size]
  have ds20 : dv.size ≤ 20 := by rw [hds]; have := dec_len 4 pn (by omega); omega
  have HDV := Lib.hid hdv
  have t1 : ¬ (9223372036854775807 < 6 + dv.size) := by omega
  have t2 : ¬ (9223372036854775807 < 6 + dv.size + 20) := by omega
  obtain ⟨sv, hS⟩ : ∃ sv : ByteArray, (⟨#[80, 79, 83, 84]⟩ : ByteArray) ++ ⟨#[32, 47]⟩ ++ dv ++ ⟨#[32, 72, 84, 84, 80, 47, 49, 46, 49, 13, 10, 104, 111, 115, 116, 58, 32, 104, 13, 10]⟩ = sv := ⟨_, rfl⟩
  obtain ⟨P, hP⟩ : ∃ P, P = headL m := ⟨_, rfl⟩
  have hSP : sv = ⟨P.toArray⟩ := by
    rw [← hS, hdv, hP, hpn]
    unfold headL
    rw [hpost, ← bapp, ← bapp, ← bapp]
    rfl
  have hPl : P.length ≤ 50 := by
    rw [hP]
    unfold headL
    have h1 := methL_len m.post
    have h2 := dec_len 4 m.path (by omega)
    simp only [List.length_append, List.length_cons, List.length_nil, hostL]
    omega
  have sv60 : sv.size ≤ 60 := by rw [hSP]; simp [ByteArray.size]; omega
  have HSP := Lib.hid hSP
  have HPL := Lib.hid hPl
  have HP := Lib.hid hP
  have u1 : ¬ (9223372036854775807 < sv.size + 30) := by omega
  obtain ⟨zv, hZ⟩ : ∃ zv : ByteArray, sv ++ ⟨#[84, 114, 97, 110, 115, 102, 101, 114, 45, 69, 110, 99, 111, 100, 105, 110, 103, 58, 32, 67, 72, 85, 78, 75, 69, 68, 13, 10, 13, 10]⟩ = zv := ⟨_, rfl⟩
  obtain ⟨Z, hZl⟩ : ∃ Z, Z = P ++ teL := ⟨_, rfl⟩
  have hZP : zv = ⟨Z.toArray⟩ := by
    rw [← hZ, hSP, hZl, ← bapp]
    rfl
  have hZn : Z.length ≤ 200 := by rw [hZl]; simp only [List.length_append, List.length_cons, List.length_nil, teL]; omega
  have hch := m.ch.toNat_lt
  obtain ⟨q, hq⟩ : ∃ q, q = m.ch.toNat := ⟨_, rfl⟩
  rw [← hq] at hch ⊢
  have hqI : (q : Int) ≤ 255 := by omega
  have HQ : Hid (q ≤ 255) := by show _ ≤ _; omega
  obtain ⟨T0, hT0⟩ : ∃ T0, T0 = Z ++ chunksP (1 + q) m.bd.length m.bd := ⟨_, rfl⟩
  have HTL : Hid (T0.length ≤ 40000) := by
    show _ ≤ _
    have := chunks_len (1 + q) (by omega) m.bd.length m.bd
    rw [hT0, List.length_append]
    omega
  have RES : Hid (wireP m = T0 ++ [48, 13, 10, 13, 10]) := by
    show _ = _
    unfold wireP
    rw [if_pos hchd, hT0, hZl, hP, ← hq]
  have HT0 := Lib.hid hT0
  have OT : Hid (∀ w2 : World, OwnT (Lib.bytesWorld w2 5 zv) w2.heap.size (.slice (some ⟨w2.heap.size, 0, none⟩) zv.size (grownCap w2 zv.size 0 5)) Z) := by
    intro w2
    rw [hZP]
    exact ownT_bytes w2 Z (by unfold maxLen; omega)
  have BW : Hid (∀ w2 : World, Below w2.heap.size w2 (Lib.bytesWorld w2 5 zv)) := by
    intro w2
    refine ⟨?_, ?_, ?_, by rw [Lib.bytesWorld_size]; omega, fun k hk => Lib.bytesWorld_at_old w2 _ _ k hk⟩
    all_goals (unfold Lib.bytesWorld World.freeze; rw [if_neg (by decide)]; rfl)
  have ZS : Hid (zv.size = Z.length) := by show _ = _; rw [hZP]; simp [ByteArray.size]
  have hconv := fun w2 => Lib.run_convert_string_bytes (P := Tryd.prog) w2 9 24 5 zv (u := .string) Tryd.underlying9 Tryd.underlying24 Tryd.underlying5
  have HBL : Hid (m.bd.length = n0) := by show _ = _; omega
  have HNBV : Hid (n0 ≤ 4096 ∧ n0 ≤ c) := by show _ ∧ _; omega
  obtain ⟨cs, hcs⟩ : ∃ cs : Array Value, cs = #[.int .u16 (pn : Int), .slice A n0 c, .int .u8 (q : Int), .bool true, .bool true] := ⟨_, rfl⟩
  have B0 : Hid (Below w.heap.size w (w.alloc (.cells cs 27))) := (Below.refl _ w).alloc (Nat.le_refl _) _
  rw [hcs] at B0
  clear hcs hr hcap hl hn0 hnb hpn hdv hds hSP hPl hP hZP hZl hZn hpost hchd hbig hT0 hq hch hp
  go_enter Tryd.func8, Tryd.ntmps8
  go_wp2_with (first
    | (go_at_call 11; go_must (refine (decimal_any pn (by omega) _).mono ?_; rintro e w1 ⟨rfl, hb⟩; rw [← HDV.out]; have q_ := heap_below (heap_alloc_new w _) hb; have k1 : w1.cell? ⟨w.heap.size, 1, none⟩ = some (.slice A n0 c) := (by rw [cell_of_row w1 w.heap.size 1 _ _ _ q_]; rfl); have k3 : w1.cell? ⟨w.heap.size, 3, none⟩ = some (.bool true) := (by rw [cell_of_row w1 w.heap.size 3 _ _ _ q_]; rfl); have k2 : (Lib.bytesWorld w1 5 zv).cell? ⟨w.heap.size, 2, none⟩ = some (.int .u8 (q : Int)) := (by rw [cell_of_row _ w.heap.size 2 _ _ _ (heap_below q_ (BW.out w1))]; rfl); clear q_; have HB1 := Lib.hid (B0.out.trans (hb.mono B0.out.size)); have HB3 := Lib.hid (HB1.out.trans ((BW.out w1).mono HB1.out.size)); clear hb)))
  clear k1 k2 k3
  have C0 : Hid (CI (1 + q) T0 w w1 (Lib.bytesWorld w1 5 zv) A n0 c w1.heap.size zv.size (grownCap w1 zv.size 0 5)) := by
    refine ⟨m.bd, Z, HBL.out.symm, ZS.out, RB.out, HNBV.out.2, HNBV.out.1, HT0.out.symm, OT.out w1, HB3.out, (BW.out w1).size⟩
  go_loopw [5, 6] (fun b o wr => ∃ (A' : Option Addr) (r c' g nO cap : Nat), b = .slice A' r c' ∧ o = .slice (some ⟨g, 0, none⟩) nO cap ∧ Hid (CI (1 + q) T0 w w1 wr A' r c' g nO cap)) (fun b _ _ => match b with | .slice _ n _ => n | _ => 0)
  case atStart => exact ⟨_, _, _, _, _, _, rfl, rfl, C0.out⟩
  case round =>
    obtain ⟨A', r, c', g, nO, cap, rfl, rfl, hO⟩ := hrel
    obtain ⟨rem, O, hr, hnO, hrd, hrc, hr4, hT, hown, hbel, hsz⟩ := hO.out
    have RD := Lib.hid hrd
    have HRC := Lib.hid hrc
    have HTT := Lib.hid hT
    have HOW := Lib.hid hown
    have HBE := Lib.hid hbel
    have HSZ := Lib.hid hsz
    have HRR := Lib.hid hr
    have HNO := Lib.hid hnO
    have hrI : (r : Int) ≤ 4096 := by omega
    have hrcI : (r : Int) ≤ (c' : Int) := by omega
    have OL : Hid (nO ≤ 40000) := by
      show _ ≤ _
      have h1 := congrArg List.length hT
      rw [List.length_append] at h1
      have := HTL.out
      omega
    clear hr hnO hrd hrc hr4 hT hown hbel hsz hO
    by_cases hz : 0 < r
    · obtain ⟨n, hn⟩ : ∃ n, n = min (1 + q) r := ⟨_, rfl⟩
      have HNN := Lib.hid hn
      have hmin : min (1 + (q : Int)) (r : Int) = (n : Int) := by omega
      have n1 : 1 ≤ n := by have := HQ.out; omega
      have n256I : (n : Int) ≤ 256 := by have := HQ.out; omega
      have n0I : (0 : Int) ≤ (n : Int) := by omega
      have ncI : (n : Int) ≤ (c' : Int) := by omega
      have nrI : (n : Int) ≤ (r : Int) := by omega
      have N256 : Hid (n ≤ 256 ∧ n ≤ r ∧ 1 ≤ n) := by show _ ∧ _; omega
      have HZ := Lib.hid hz
      clear hn
      obtain ⟨a0, ha0⟩ : ∃ z, z = lowHex.getD (n / 256) 0 := ⟨_, rfl⟩
      obtain ⟨a1, ha1⟩ : ∃ z, z = upHex.getD (n / 16 % 16) 0 := ⟨_, rfl⟩
      obtain ⟨a2, ha2⟩ : ∃ z, z = lowHex.getD (n % 16) 0 := ⟨_, rfl⟩
      have X0 : Hid ((⟨#[48, 49, 50, 51, 52, 53, 54, 55, 56, 57, 97, 98, 99, 100, 101, 102]⟩ : ByteArray).data.toList[n / 256]? = some a0) := by show _ = _; rw [ha0]; exact (hexAt ⟨n / 256, by have := N256.out; omega⟩).1
      have X1 : Hid ((⟨#[48, 49, 50, 51, 52, 53, 54, 55, 56, 57, 65, 66, 67, 68, 69, 70]⟩ : ByteArray).data.toList[n / 16 % 16]? = some a1) := by show _ = _; rw [ha1]; exact (hexAt ⟨n / 16 % 16, by omega⟩).2
      have X2 : Hid ((⟨#[48, 49, 50, 51, 52, 53, 54, 55, 56, 57, 97, 98, 99, 100, 101, 102]⟩ : ByteArray).data.toList[n % 16]? = some a2) := by show _ = _; rw [ha2]; exact (hexAt ⟨n % 16, by omega⟩).1
      obtain ⟨O1, hO1⟩ : ∃ z, z = O ++ [a0, a1, a2, 13, 10] := ⟨_, rfl⟩
      obtain ⟨O2, hO2⟩ : ∃ z, z = O1 ++ rem.take n := ⟨_, rfl⟩
      obtain ⟨O3, hO3⟩ : ∃ z, z = O2 ++ [13, 10] := ⟨_, rfl⟩
      have STEP : Hid (O3 ++ chunksP (1 + q) (rem.drop n).length (rem.drop n) = T0) := by
        show _ = _
        have h1 := HTT.out
        rw [chunks_step (1 + q) (by omega) rem (by rw [← HRR.out]; exact HZ.out), ← HRR.out, ← HNN.out] at h1
        rw [← h1, hO3, hO2, hO1, ha0, ha1, ha2]
        simp [hex3]
      have L1 : Hid (O1.length + n ≤ 50000 ∧ O2.length + 2 ≤ 50000 ∧ nO + 5 ≤ 50000) := by
        show _ ∧ _
        rw [hO2, hO1]
        have h1 := OL.out
        have h2 := HNO.out
        have h3 := N256.out
        simp only [List.length_append, List.length_take, List.length_cons, List.length_nil]
        omega
      have HO1 := Lib.hid hO1
      have HO2 := Lib.hid hO2
      have HO3 := Lib.hid hO3
      clear ha0 ha1 ha2 hO1 hO2 hO3
      go_wp2
      refine AnyC.startB (fun _ => True) (by kernel_rfl) rfl ?_
      intro w2 hb2 hs2
      have HB2 := Lib.hid hb2
      have OW2 := Lib.hid (HOW.out.below hb2)
      clear hb2 hs2
      apply AnyC.take (i := 0) rfl (by kernel_rfl) rfl
      · intro w' hC K hK
        go_wp2
        exact hK
      · rfl
      apply AnyC.take (i := 1) rfl (by kernel_rfl) rfl
      · intro w' hC K hK
        go_wp2
        exact hK
      · rfl
      apply AnyC.take (i := 2) rfl (by kernel_rfl) rfl
      · intro w' hC K hK
        go_wp2
        exact hK
      · rfl
      apply AnyC.take (i := 3) rfl (by kernel_rfl) rfl
      · intro w' hC K hK
        refine wpList_idx rfl rfl _ rfl ((n : Int) / 256) rfl (n / 256) (by omega) a0 (by with_reducible exact X0.out) ?_
        go_wp2
        exact hK
      · rfl
      apply AnyC.take (i := 4) rfl (by kernel_rfl) rfl
      · intro w' hC K hK
        go_wp2
        exact hK
      · rfl
      apply AnyC.take (i := 5) rfl (by kernel_rfl) rfl
      · intro w' hC K hK
        go_wp2
        exact hK
      · rfl
      apply AnyC.take (i := 6) rfl (by kernel_rfl) rfl
      · intro w' hC K hK
        go_wp2
        exact hK
      · rfl
      apply AnyC.take (i := 7) rfl (by kernel_rfl) rfl
      · intro w' hC K hK
        refine wpList_idx rfl rfl _ rfl ((n : Int) / 16 % 16) rfl (n / 16 % 16) (by omega) a1 (by with_reducible exact X1.out) ?_
        go_wp2
        exact hK
      · rfl
      apply AnyC.take (i := 8) rfl (by kernel_rfl) rfl
      · intro w' hC K hK
        go_wp2
        exact hK
      · rfl
      apply AnyC.take (i := 9) rfl (by kernel_rfl) rfl
      · intro w' hC K hK
        go_wp2
        exact hK
      · rfl
      apply AnyC.take (i := 10) rfl (by kernel_rfl) rfl
      · intro w' hC K hK
        refine wpList_idx rfl rfl _ rfl ((n : Int) % 16) rfl (n % 16) (by omega) a2 (by with_reducible exact X2.out) ?_
        go_wp2
        exact hK
      · rfl
      apply AnyC.solo (i := 11) rfl (by kernel_rfl) trivial
      go_wp2
      refine ⟨rfl, ?_⟩
      apply AnyC.solo (i := 12) rfl (by kernel_rfl) trivial
      have NB : Hid (Below w2.heap.size w2 (w2.alloc (.cells (bvs [a0, a1, a2, 13, 10]).toArray 5))) := (Below.refl _ _).alloc (Nat.le_refl _) _
      refine appT (l := O) (news := [a0, a1, a2, 13, 10]) (base := w1.heap.size) rfl rfl rfl rfl (OW2.out.below NB.out) (reads_block (l := [a0, a1, a2, 13, 10]) (n := 5) (heap_alloc_new w2 _) rfl) (by have h1 := L1.out; have h2 := HNO.out; omega) (Nat.le_trans HSZ.out (Nat.le_trans HB2.out.size NB.out.size)) ?_
      intro v3 w3 ho hg hx
      rw [← HO1.out] at ho
      obtain ⟨g3, c3, hv3, hb3, _⟩ := ho.reads
      subst hv3
      have O3_ := Lib.hid ho
      have E2 : Hid (Below w.heap.size w (w2.alloc (.cells (bvs [a0, a1, a2, 13, 10]).toArray 5))) := (HBE.out.trans (HB2.out.mono HBE.out.size)).trans (NB.out.mono (Nat.le_trans HBE.out.size HB2.out.size))
      have BG : Hid (∀ k, Value.ownBlock (.slice (some ⟨g, 0, none⟩) nO cap) = some k → w1.heap.size ≤ k) := by
        intro k hk
        obtain ⟨g9, c9, h1, h2, _⟩ := HOW.out.reads
        cases hk
        injection h1 with h1 _ _
        cases h1
        exact h2
      have B3 := Lib.hid (Below.grown E2.out hg E2.out.size (fun k hk => Nat.le_trans HB1.out.size (BG.out k hk)))
      have Z3 := Lib.hid (Nat.le_trans (Nat.le_trans HSZ.out (Nat.le_trans HB2.out.size NB.out.size)) hg.size)
      have G3 := Lib.hid hb3
      clear ho hg hx hb3
      go_wp2
      refine ⟨rfl, ?_⟩
      apply AnyC.take (i := 13) rfl (by kernel_rfl) rfl
      · intro w' hC K hK
        go_wp2
        exact hK
      · rfl
      refine AnyC.done trivial (by kernel_rfl) ?_
      have V0 : Hid True := trivial
      go_wp2_with (first
        | (at_builtin; have hx_ := V0; go_must (refine appT (l := O1) (news := rem.take n) (base := w1.heap.size) (B := w.heap.size) rfl rfl rfl rfl O3_.out (by have h1 := (RD.out.below B3.out).take (k := n) N256.out.2.1; rw [Nat.mul_one] at h1; rw [show bvs (rem.take n) = (bvs rem).take n from by simp [bvs]]; exact h1) (by have h1 := L1.out; omega) Z3.out ?_; intro v4 w4 ho hg hx; rw [← HO2.out] at ho; obtain ⟨g4, c4, hv4, hb4, _⟩ := ho.reads; subst hv4; have O4_ := Lib.hid ho; have B4 := Lib.hid (Below.grown B3.out hg B3.out.size (fun k hk => by cases hk; exact Nat.le_trans HB1.out.size G3.out)); have Z4 := Lib.hid (Nat.le_trans Z3.out hg.size); have G4 := Lib.hid hb4; clear ho hg hx hb4 V0 hx_))
        | (at_builtin; go_must (
            have NB4 : Below w4.heap.size w4 (w4.alloc (.cells (bvs [13, 10]).toArray 5)) := (Below.refl _ _).alloc (Nat.le_refl _) _
            refine appT (l := O2) (news := [13, 10]) (base := w1.heap.size) rfl rfl rfl rfl (O4_.out.below NB4) (reads_block (l := [13, 10]) (n := 2) (heap_alloc_new w4 _) rfl) (by have h1 := L1.out; omega) (Nat.le_trans Z4.out NB4.size) ?_
            intro v5 w5 ho hg hx
            rw [← HO3.out] at ho
            obtain ⟨g5, c5, hv5, hb5, _⟩ := ho.reads
            subst hv5
            have O5_ := Lib.hid ho
            have B5 := Lib.hid (Below.grown (B4.out.trans (NB4.mono B4.out.size)) hg (Nat.le_trans B4.out.size NB4.size) (fun k hk => by cases hk; exact Nat.le_trans HB1.out.size G4.out))
            have Z5 := Lib.hid (Nat.le_trans (Nat.le_trans Z4.out NB4.size) hg.size)
            clear ho hg hx hb5 NB4)))
      go_roundw
      case rel =>
        refine ⟨_, _, _, _, _, _, rfl, rfl, rem.drop n, O3, ?_, rfl, ?_, ?_, ?_, STEP.out, O5_.out, B5.out, Z5.out⟩
        · rw [List.length_drop, ← HRR.out]
        · have h1 := RD.out.cut (k := n) (cap := c') N256.out.2.1 HRC.out
          simp only [Nat.mul_one] at h1
          rw [show bvs (rem.drop n) = (bvs rem).drop n from by simp [bvs]]
          exact h1
        · have h1 := HRC.out; have h2 := N256.out; omega
        · omega
      case measure => have h2 := N256.out; simp only; omega
    · have hr0 : r = 0 := by omega
      subst hr0
      have OT0 : Hid (OwnT wr w1.heap.size (.slice (some ⟨g, 0, none⟩) nO cap) T0) := by
        show OwnT _ _ _ _
        have h1 := HTT.out
        rw [chunks_nil _ _ HRR.out.symm, List.append_nil] at h1
        rw [← h1]
        exact HOW.out
      have BG : Hid (∀ k, Value.ownBlock (.slice (some ⟨g, 0, none⟩) nO cap) = some k → w1.heap.size ≤ k) := by
        intro k hk
        obtain ⟨g9, c9, h1, h2, _⟩ := HOW.out.reads
        cases hk
        injection h1 with h1 _ _
        cases h1
        exact h2
      obtain ⟨TT, hTT⟩ : ∃ z, z = T0 ++ [48, 13, 10, 13, 10] := ⟨_, rfl⟩
      have HTTT := Lib.hid hTT
      have RES2 : Hid (wireP m = TT) := by show _ = _; rw [hTT]; exact RES.out
      clear hTT hz
      go_wp2_with (at_builtin; go_must (refine appTs (l := T0) (news := [48, 13, 10, 13, 10]) (base := w1.heap.size) rfl rfl rfl rfl OT0.out (by have h1 := HTL.out; simp only [List.length_cons, List.length_nil]; omega) HSZ.out ?_; intro v5 w5 ho hg hx; rw [← HTTT.out] at ho; obtain ⟨g5, c5, hv5, hb5, hr5⟩ := ho.reads; subst hv5; have R5 := Lib.hid hr5; have B5 := Lib.hid (Below.grown HBE.out hg HBE.out.size (fun k hk => Nat.le_trans HB1.out.size (BG.out k hk))); clear ho hg hx hb5 hr5))
      go_ret
      rw [RES2.out]
      exact ⟨_, c5, rfl, R5.out, B5.out⟩
set_option maxRecDepth 100000 in
set_option maxHeartbeats 4000000 in
theorem wireC11 (m : MadeV) (A : Option Addr) (c : Nat) (w : World) (hp : m.path < 65536) (hr : Reads w w.heap.size 1 A m.body.length (bvs m.body)) (hcap : m.body.length ≤ c) (hl : m.body.length ≤ 140737488351232) (hpost : m.post = true) (hchd : m.chd = true) (hbig : 4096 < m.body.length) :
    Calls Tryd.prog 8 #[.agg #[.int .u16 (m.path : Int), .slice A m.body.length c, .int .u8 (m.ch.toNat : Int), .bool true, .bool true]] w (RPost (wireP m) w) := by
  have HR := Lib.hid hr
  have HL := Lib.hid hl
  obtain ⟨n0, hn0⟩ : ∃ n, n = m.body.length := ⟨_, rfl⟩
  rw [← hn0] at HR ⊢
  have HN0 := Lib.hid hn0
  have gb : decide ((4096 : Int) < (n0 : Int)) = true := by simp; omega
  have gc : (4096 : Int) ≤ (c : Int) := by omega
  have hnb : m.bd.length = 4096 := by unfold MadeV.bd; rw [List.length_take]; omega
  have RB : Hid (Reads w w.heap.size 1 A 4096 (bvs m.bd)) := by
    show Reads _ _ _ _ _ _
    have h1 := HR.out.take (k := 4096) (by omega)
    rw [Nat.mul_one] at h1
    rw [show bvs m.bd = (bvs m.body).take 4096 from by unfold MadeV.bd; simp [bvs]]
    exact h1
  have HNB := Lib.hid hnb
  obtain ⟨pn, hpn⟩ : ∃ p, p = m.path := ⟨_, rfl⟩
  rw [← hpn] at hp ⊢
  have HPN := Lib.hid hpn
  have hpI : (pn : Int) ≤ 65535 := by omega
  obtain ⟨dv, hdv⟩ : ∃ dv : ByteArray, dv = ⟨(Lib.decDigits pn).toArray⟩ := ⟨_, rfl⟩
  have hds : dv.size = (Lib.decDigits pn).length := by rw [hdv]; simp [ByteArray.size]
  have ds20 : dv.size ≤ 20 := by rw [hds]; have := dec_len 4 pn (by omega); omega
  have HDV := Lib.hid hdv
  have t1 : ¬ (9223372036854775807 < 6 + dv.size) := by omega
  have t2 : ¬ (9223372036854775807 < 6 + dv.size + 20) := by omega
  obtain ⟨sv, hS⟩ : ∃ sv : ByteArray, (⟨#[80, 79, 83, 84]⟩ : ByteArray) ++ ⟨#[32, 47]⟩ ++ dv ++ ⟨#[32, 72, 84, 84, 80, 47, 49, 46, 49, 13, 10, 104, 111, 115, 116, 58, 32, 104, 13, 10]⟩ = sv := ⟨_, rfl⟩
  obtain ⟨P, hP⟩ : ∃ P, P = headL m := ⟨_, rfl⟩
  have hSP : sv = ⟨P.toArray⟩ := by
    rw [← hS, hdv, hP, hpn]
    unfold headL
    rw [hpost, ← bapp, ← bapp, ← bapp]
    rfl
  have hPl : P.length ≤ 50 := by
    rw [hP]
    unfold headL
    have h1 := methL_len m.post
    have h2 := dec_len 4 m.path (by omega)
    simp only [List.length_append, List.length_cons, List.length_nil, hostL]
    omega
  have sv60 : sv.size ≤ 60 := by rw [hSP]; simp [ByteArray.size]; omega
  have HSP := Lib.hid hSP
  have HPL := Lib.hid hPl
  have HP := Lib.hid hP
  have u1 : ¬ (9223372036854775807 < sv.size + 30) := by omega
  obtain ⟨zv, hZ⟩ : ∃ zv : ByteArray, sv ++ ⟨#[84, 114, 97, 110, 115, 102, 101, 114, 45, 69, 110, 99, 111, 100, 105, 110, 103, 58, 32, 67, 72, 85, 78, 75, 69, 68, 13, 10, 13, 10]⟩ = zv := ⟨_, rfl⟩
  obtain ⟨Z, hZl⟩ : ∃ Z, Z = P ++ teL := ⟨_, rfl⟩
  have hZP : zv = ⟨Z.toArray⟩ := by
    rw [← hZ, hSP, hZl, ← bapp]
    rfl
  have hZn : Z.length ≤ 200 := by rw [hZl]; simp only [List.length_append, List.length_cons, List.length_nil, teL]; omega
  have hch := m.ch.toNat_lt
  obtain ⟨q, hq⟩ : ∃ q, q = m.ch.toNat := ⟨_, rfl⟩
  rw [← hq] at hch ⊢
  have hqI : (q : Int) ≤ 255 := by omega
  have HQ : Hid (q ≤ 255) := by show _ ≤ _; omega
  obtain ⟨T0, hT0⟩ : ∃ T0, T0 = Z ++ chunksP (1 + q) m.bd.length m.bd := ⟨_, rfl⟩
  have HTL : Hid (T0.length ≤ 40000) := by
    show _ ≤ _
    have := chunks_len (1 + q) (by omega) m.bd.length m.bd
    rw [hT0, List.length_append]
    omega
  have RES : Hid (wireP m = T0 ++ [48, 13, 10, 13, 10]) := by
    show _ = _
    unfold wireP
    rw [if_pos hchd, hT0, hZl, hP, ← hq]
  have HT0 := Lib.hid hT0
  have OT : Hid (∀ w2 : World, OwnT (Lib.bytesWorld w2 5 zv) w2.heap.size (.slice (some ⟨w2.heap.size, 0, none⟩) zv.size (grownCap w2 zv.size 0 5)) Z) := by
    intro w2
    rw [hZP]
    exact ownT_bytes w2 Z (by unfold maxLen; omega)
  have BW : Hid (∀ w2 : World, Below w2.heap.size w2 (Lib.bytesWorld w2 5 zv)) := by
    intro w2
    refine ⟨?_, ?_, ?_, by rw [Lib.bytesWorld_size]; omega, fun k hk => Lib.bytesWorld_at_old w2 _ _ k hk⟩
    all_goals (unfold Lib.bytesWorld World.freeze; rw [if_neg (by decide)]; rfl)
  have ZS : Hid (zv.size = Z.length) := by show _ = _; rw [hZP]; simp [ByteArray.size]
  have hconv := fun w2 => Lib.run_convert_string_bytes (P := Tryd.prog) w2 9 24 5 zv (u := .string) Tryd.underlying9 Tryd.underlying24 Tryd.underlying5
  have HBL : Hid (m.bd.length = 4096) := by show _ = _; omega
  have HNBV : Hid (4096 ≤ 4096 ∧ 4096 ≤ c) := by show _ ∧ _; omega
  obtain ⟨cs, hcs⟩ : ∃ cs : Array Value, cs = #[.int .u16 (pn : Int), .slice A n0 c, .int .u8 (q : Int), .bool true, .bool true] := ⟨_, rfl⟩
  have B0 : Hid (Below w.heap.size w (w.alloc (.cells cs 27))) := (Below.refl _ w).alloc (Nat.le_refl _) _
  rw [hcs] at B0
  clear hcs hr hcap hl hn0 hnb hpn hdv hds hSP hPl hP hZP hZl hZn hpost hchd hbig hT0 hq hch hp
  go_enter Tryd.func8, Tryd.ntmps8
  go_wp2_with (first
    | (go_at_call 11; go_must (refine (decimal_any pn (by omega) _).mono ?_; rintro e w1 ⟨rfl, hb⟩; rw [← HDV.out]; have q_ := heap_below (heap_alloc_new w _) hb; have k1 : w1.cell? ⟨w.heap.size, 1, none⟩ = some (.slice A n0 c) := (by rw [cell_of_row w1 w.heap.size 1 _ _ _ q_]; rfl); have k3 : w1.cell? ⟨w.heap.size, 3, none⟩ = some (.bool true) := (by rw [cell_of_row w1 w.heap.size 3 _ _ _ q_]; rfl); have k2 : (Lib.bytesWorld w1 5 zv).cell? ⟨w.heap.size, 2, none⟩ = some (.int .u8 (q : Int)) := (by rw [cell_of_row _ w.heap.size 2 _ _ _ (heap_below q_ (BW.out w1))]; rfl); clear q_; have HB1 := Lib.hid (B0.out.trans (hb.mono B0.out.size)); have HB3 := Lib.hid (HB1.out.trans ((BW.out w1).mono HB1.out.size)); clear hb)))
  clear k1 k2 k3
  have C0 : Hid (CI (1 + q) T0 w w1 (Lib.bytesWorld w1 5 zv) A 4096 c w1.heap.size zv.size (grownCap w1 zv.size 0 5)) := by
    refine ⟨m.bd, Z, HBL.out.symm, ZS.out, RB.out, HNBV.out.2, HNBV.out.1, HT0.out.symm, OT.out w1, HB3.out, (BW.out w1).size⟩
  go_loopw [5, 6] (fun b o wr => ∃ (A' : Option Addr) (r c' g nO cap : Nat), b = .slice A' r c' ∧ o = .slice (some ⟨g, 0, none⟩) nO cap ∧ Hid (CI (1 + q) T0 w w1 wr A' r c' g nO cap)) (fun b _ _ => match b with | .slice _ n _ => n | _ => 0)
  case atStart => exact ⟨_, _, _, _, _, _, rfl, rfl, C0.out⟩
  case round =>
    obtain ⟨A', r, c', g, nO, cap, rfl, rfl, hO⟩ := hrel
    obtain ⟨rem, O, hr, hnO, hrd, hrc, hr4, hT, hown, hbel, hsz⟩ := hO.out
    have RD := Lib.hid hrd
    have HRC := Lib.hid hrc
    have HTT := Lib.hid hT
    have HOW := Lib.hid hown
    have HBE := Lib.hid hbel
    have HSZ := Lib.hid hsz
    have HRR := Lib.hid hr
    have HNO := Lib.hid hnO
    have hrI : (r : Int) ≤ 4096 := by omega
    have hrcI : (r : Int) ≤ (c' : Int) := by omega
    have OL : Hid (nO ≤ 40000) := by
      show _ ≤ _
      have h1 := congrArg List.length hT
      rw [List.length_append] at h1
      have := HTL.out
      omega
    clear hr hnO hrd hrc hr4 hT hown hbel hsz hO
    by_cases hz : 0 < r
    · obtain ⟨n, hn⟩ : ∃ n, n = min (1 + q) r := ⟨_, rfl⟩
      have HNN := Lib.hid hn
      have hmin : min (1 + (q : Int)) (r : Int) = (n : Int) := by omega
      have n1 : 1 ≤ n := by have := HQ.out; omega
      have n256I : (n : Int) ≤ 256 := by have := HQ.out; omega
      have n0I : (0 : Int) ≤ (n : Int) := by omega
      have ncI : (n : Int) ≤ (c' : Int) := by omega
      have nrI : (n : Int) ≤ (r : Int) := by omega
      have N256 : Hid (n ≤ 256 ∧ n ≤ r ∧ 1 ≤ n) := by show _ ∧ _; omega
      have HZ := Lib.hid hz
      clear hn
      obtain ⟨a0, ha0⟩ : ∃ z, z = lowHex.getD (n / 256) 0 := ⟨_, rfl⟩
      obtain ⟨a1, ha1⟩ : ∃ z, z = upHex.getD (n / 16 % 16) 0 := ⟨_, rfl⟩
      obtain ⟨a2, ha2⟩ : ∃ z, z = lowHex.getD (n % 16) 0 := ⟨_, rfl⟩
      have X0 : Hid ((⟨#[48, 49, 50, 51, 52, 53, 54, 55, 56, 57, 97, 98, 99, 100, 101, 102]⟩ : ByteArray).data.toList[n / 256]? = some a0) := by show _ = _; rw [ha0]; exact (hexAt ⟨n / 256, by have := N256.out; omega⟩).1
      have X1 : Hid ((⟨#[48, 49, 50, 51, 52, 53, 54, 55, 56, 57, 65, 66, 67, 68, 69, 70]⟩ : ByteArray).data.toList[n / 16 % 16]? = some a1) := by show _ = _; rw [ha1]; exact (hexAt ⟨n / 16 % 16, by omega⟩).2
      have X2 : Hid ((⟨#[48, 49, 50, 51, 52, 53, 54, 55, 56, 57, 97, 98, 99, 100, 101, 102]⟩ : ByteArray).data.toList[n % 16]? = some a2) := by show _ = _; rw [ha2]; exact (hexAt ⟨n % 16, by omega⟩).1
      obtain ⟨O1, hO1⟩ : ∃ z, z = O ++ [a0, a1, a2, 13, 10] := ⟨_, rfl⟩
      obtain ⟨O2, hO2⟩ : ∃ z, z = O1 ++ rem.take n := ⟨_, rfl⟩
      obtain ⟨O3, hO3⟩ : ∃ z, z = O2 ++ [13, 10] := ⟨_, rfl⟩
      have STEP : Hid (O3 ++ chunksP (1 + q) (rem.drop n).length (rem.drop n) = T0) := by
        show _ = _
        have h1 := HTT.out
        rw [chunks_step (1 + q) (by omega) rem (by rw [← HRR.out]; exact HZ.out), ← HRR.out, ← HNN.out] at h1
        rw [← h1, hO3, hO2, hO1, ha0, ha1, ha2]
        simp [hex3]
      have L1 : Hid (O1.length + n ≤ 50000 ∧ O2.length + 2 ≤ 50000 ∧ nO + 5 ≤ 50000) := by
        show _ ∧ _
        rw [hO2, hO1]
        have h1 := OL.out
        have h2 := HNO.out
        have h3 := N256.out
        simp only [List.length_append, List.length_take, List.length_cons, List.length_nil]
        omega
      have HO1 := Lib.hid hO1
      have HO2 := Lib.hid hO2
      have HO3 := Lib.hid hO3
      clear ha0 ha1 ha2 hO1 hO2 hO3
      go_wp2
      refine AnyC.startB (fun _ => True) (by kernel_rfl) rfl ?_
      intro w2 hb2 hs2
      have HB2 := Lib.hid hb2
      have OW2 := Lib.hid (HOW.out.below hb2)
      clear hb2 hs2
      apply AnyC.take (i := 0) rfl (by kernel_rfl) rfl
      · intro w' hC K hK
        go_wp2
        exact hK
      · rfl
      apply AnyC.take (i := 1) rfl (by kernel_rfl) rfl
      · intro w' hC K hK
        go_wp2
        exact hK
      · rfl
      apply AnyC.take (i := 2) rfl (by kernel_rfl) rfl
      · intro w' hC K hK
        go_wp2
        exact hK
      · rfl
      apply AnyC.take (i := 3) rfl (by kernel_rfl) rfl
      · intro w' hC K hK
        refine wpList_idx rfl rfl _ rfl ((n : Int) / 256) rfl (n / 256) (by omega) a0 (by with_reducible exact X0.out) ?_
        go_wp2
        exact hK
      · rfl
      apply AnyC.take (i := 4) rfl (by kernel_rfl) rfl
      · intro w' hC K hK
        go_wp2
        exact hK
      · rfl
      apply AnyC.take (i := 5) rfl (by kernel_rfl) rfl
      · intro w' hC K hK
        go_wp2
        exact hK
      · rfl
      apply AnyC.take (i := 6) rfl (by kernel_rfl) rfl
      · intro w' hC K hK
        go_wp2
        exact hK
      · rfl
      apply AnyC.take (i := 7) rfl (by kernel_rfl) rfl
      · intro w' hC K hK
        refine wpList_idx rfl rfl _ rfl ((n : Int) / 16 % 16) rfl (n / 16 % 16) (by omega) a1 (by with_reducible exact X1.out) ?_
        go_wp2
        exact hK
      · rfl
      apply AnyC.take (i := 8) rfl (by kernel_rfl) rfl
      · intro w' hC K hK
        go_wp2
        exact hK
      · rfl
      apply AnyC.take (i := 9) rfl (by kernel_rfl) rfl
      · intro w' hC K hK
        go_wp2
        exact hK
      · rfl
      apply AnyC.take (i := 10) rfl (by kernel_rfl) rfl
      · intro w' hC K hK
        refine wpList_idx rfl rfl _ rfl ((n : Int) % 16) rfl (n % 16) (by omega) a2 (by with_reducible exact X2.out) ?_
        go_wp2
        exact hK
      · rfl
      apply AnyC.solo (i := 11) rfl (by kernel_rfl) trivial
      go_wp2
      refine ⟨rfl, ?_⟩
      apply AnyC.solo (i := 12) rfl (by kernel_rfl) trivial
      have NB : Hid (Below w2.heap.size w2 (w2.alloc (.cells (bvs [a0, a1, a2, 13, 10]).toArray 5))) := (Below.refl _ _).alloc (Nat.le_refl _) _
      refine appT (l := O) (news := [a0, a1, a2, 13, 10]) (base := w1.heap.size) rfl rfl rfl rfl (OW2.out.below NB.out) (reads_block (l := [a0, a1, a2, 13, 10]) (n := 5) (heap_alloc_new w2 _) rfl) (by have h1 := L1.out; have h2 := HNO.out; omega) (Nat.le_trans HSZ.out (Nat.le_trans HB2.out.size NB.out.size)) ?_
      intro v3 w3 ho hg hx
      rw [← HO1.out] at ho
      obtain ⟨g3, c3, hv3, hb3, _⟩ := ho.reads
      subst hv3
      have O3_ := Lib.hid ho
      have E2 : Hid (Below w.heap.size w (w2.alloc (.cells (bvs [a0, a1, a2, 13, 10]).toArray 5))) := (HBE.out.trans (HB2.out.mono HBE.out.size)).trans (NB.out.mono (Nat.le_trans HBE.out.size HB2.out.size))
      have BG : Hid (∀ k, Value.ownBlock (.slice (some ⟨g, 0, none⟩) nO cap) = some k → w1.heap.size ≤ k) := by
        intro k hk
        obtain ⟨g9, c9, h1, h2, _⟩ := HOW.out.reads
        cases hk
        injection h1 with h1 _ _
        cases h1
        exact h2
      have B3 := Lib.hid (Below.grown E2.out hg E2.out.size (fun k hk => Nat.le_trans HB1.out.size (BG.out k hk)))
      have Z3 := Lib.hid (Nat.le_trans (Nat.le_trans HSZ.out (Nat.le_trans HB2.out.size NB.out.size)) hg.size)
      have G3 := Lib.hid hb3
      clear ho hg hx hb3
      go_wp2
      refine ⟨rfl, ?_⟩
      apply AnyC.take (i := 13) rfl (by kernel_rfl) rfl
      · intro w' hC K hK
        go_wp2
        exact hK
      · rfl
      refine AnyC.done trivial (by kernel_rfl) ?_
      have V0 : Hid True := trivial
      go_wp2_with (first
        | (at_builtin; have hx_ := V0; go_must (refine appT (l := O1) (news := rem.take n) (base := w1.heap.size) (B := w.heap.size) rfl rfl rfl rfl O3_.out (by have h1 := (RD.out.below B3.out).take (k := n) N256.out.2.1; rw [Nat.mul_one] at h1; rw [show bvs (rem.take n) = (bvs rem).take n from by simp [bvs]]; exact h1) (by have h1 := L1.out; omega) Z3.out ?_; intro v4 w4 ho hg hx; rw [← HO2.out] at ho; obtain ⟨g4, c4, hv4, hb4, _⟩ := ho.reads; subst hv4; have O4_ := Lib.hid ho; have B4 := Lib.hid (Below.grown B3.out hg B3.out.size (fun k hk => by cases hk; exact Nat.le_trans HB1.out.size G3.out)); have Z4 := Lib.hid (Nat.le_trans Z3.out hg.size); have G4 := Lib.hid hb4; clear ho hg hx hb4 V0 hx_))
        | (at_builtin; go_must (
            have NB4 : Below w4.heap.size w4 (w4.alloc (.cells (bvs [13, 10]).toArray 5)) := (Below.refl _ _).alloc (Nat.le_refl _) _
            refine appT (l := O2) (news := [13, 10]) (base := w1.heap.size) rfl rfl rfl rfl (O4_.out.below NB4) (reads_block (l := [13, 10]) (n := 2) (heap_alloc_new w4 _) rfl) (by have h1 := L1.out; omega) (Nat.le_trans Z4.out NB4.size) ?_
            intro v5 w5 ho hg hx
            rw [← HO3.out] at ho
            obtain ⟨g5, c5, hv5, hb5, _⟩ := ho.reads
            subst hv5
            have O5_ := Lib.hid ho
            have B5 := Lib.hid (Below.grown (B4.out.trans (NB4.mono B4.out.size)) hg (Nat.le_trans B4.out.size NB4.size) (fun k hk => by cases hk; exact Nat.le_trans HB1.out.size G4.out))
            have Z5 := Lib.hid (Nat.le_trans (Nat.le_trans Z4.out NB4.size) hg.size)
            clear ho hg hx hb5 NB4)))
      go_roundw
      case rel =>
        refine ⟨_, _, _, _, _, _, rfl, rfl, rem.drop n, O3, ?_, rfl, ?_, ?_, ?_, STEP.out, O5_.out, B5.out, Z5.out⟩
        · rw [List.length_drop, ← HRR.out]
        · have h1 := RD.out.cut (k := n) (cap := c') N256.out.2.1 HRC.out
          simp only [Nat.mul_one] at h1
          rw [show bvs (rem.drop n) = (bvs rem).drop n from by simp [bvs]]
          exact h1
        · have h1 := HRC.out; have h2 := N256.out; omega
        · omega
      case measure => have h2 := N256.out; simp only; omega
    · have hr0 : r = 0 := by omega
      subst hr0
      have OT0 : Hid (OwnT wr w1.heap.size (.slice (some ⟨g, 0, none⟩) nO cap) T0) := by
        show OwnT _ _ _ _
        have h1 := HTT.out
        rw [chunks_nil _ _ HRR.out.symm, List.append_nil] at h1
        rw [← h1]
        exact HOW.out
      have BG : Hid (∀ k, Value.ownBlock (.slice (some ⟨g, 0, none⟩) nO cap) = some k → w1.heap.size ≤ k) := by
        intro k hk
        obtain ⟨g9, c9, h1, h2, _⟩ := HOW.out.reads
        cases hk
        injection h1 with h1 _ _
        cases h1
        exact h2
      obtain ⟨TT, hTT⟩ : ∃ z, z = T0 ++ [48, 13, 10, 13, 10] := ⟨_, rfl⟩
      have HTTT := Lib.hid hTT
      have RES2 : Hid (wireP m = TT) := by show _ = _; rw [hTT]; exact RES.out
      clear hTT hz
      go_wp2_with (at_builtin; go_must (refine appTs (l := T0) (news := [48, 13, 10, 13, 10]) (base := w1.heap.size) rfl rfl rfl rfl OT0.out (by have h1 := HTL.out; simp only [List.length_cons, List.length_nil]; omega) HSZ.out ?_; intro v5 w5 ho hg hx; rw [← HTTT.out] at ho; obtain ⟨g5, c5, hv5, hb5, hr5⟩ := ho.reads; subst hv5; have R5 := Lib.hid hr5; have B5 := Lib.hid (Below.grown HBE.out hg HBE.out.size (fun k hk => Nat.le_trans HB1.out.size (BG.out k hk))); clear ho hg hx hb5 hr5))
      go_ret
      rw [RES2.out]
      exact ⟨_, c5, rfl, R5.out, B5.out⟩
set_option maxRecDepth 100000 in
set_option maxHeartbeats 4000000 in
theorem wireC00 (m : MadeV) (A : Option Addr) (c : Nat) (w : World) (hp : m.path < 65536) (hr : Reads w w.heap.size 1 A m.body.length (bvs m.body)) (hcap : m.body.length ≤ c) (hl : m.body.length ≤ 140737488351232) (hpost : m.post = false) (hchd : m.chd = true) (hbig : m.body.length ≤ 4096) :
    Calls Tryd.prog 8 #[.agg #[.int .u16 (m.path : Int), .slice A m.body.length c, .int .u8 (m.ch.toNat : Int), .bool true, .bool false]] w (RPost (wireP m) w) := by
  have HR := Lib.hid hr
  have HL := Lib.hid hl
  obtain ⟨n0, hn0⟩ : ∃ n, n = m.body.length := ⟨_, rfl⟩
  rw [← hn0] at HR ⊢
  have HN0 := Lib.hid hn0
  have gb : decide ((4096 : Int) < (n0 : Int)) = false := by simp; omega
  have gc : (n0 : Int) ≤ (c : Int) := by omega
  have hnb : m.bd.length = n0 := by unfold MadeV.bd; rw [List.length_take]; omega
  have RB : Hid (Reads w w.heap.size 1 A n0 (bvs m.bd)) := by
    show Reads _ _ _ _ _ _
    have h1 := HR.out.take (k := n0) (by omega)
    rw [Nat.mul_one] at h1
    rw [show bvs m.bd = (bvs m.body).take n0 from by unfold MadeV.bd; rw [List.take_of_length_le (by omega), List.take_of_length_le (by rw [bvs_length]; omega)]]
    exact h1
  have HNB := Lib.hid hnb
  obtain ⟨pn, hpn⟩ : ∃ p, p = m.path := ⟨_, rfl⟩
  rw [← hpn] at hp ⊢
  have HPN := Lib.hid hpn
  have hpI : (pn : Int) ≤ 65535 := by omega
  obtain ⟨dv, hdv⟩ : ∃ dv : ByteArray, dv = ⟨(Lib.decDigits pn).toArray⟩ := ⟨_, rfl⟩
  have hds : dv.size = (Lib.decDigits pn).length := by rw [hdv]; simp [ByteArray.size]
  have ds20 : dv.size ≤ 20 := by rw [hds]; have := dec_len 4 pn (by omega); omega
  have HDV := Lib.hid hdv
  have t1 : ¬ (9223372036854775807 < 5 + dv.size) := by omega
  have t2 : ¬ (9223372036854775807 < 5 + dv.size + 20) := by omega
  obtain ⟨sv, hS⟩ : ∃ sv : ByteArray, (⟨#[71, 69, 84]⟩ : ByteArray) ++ ⟨#[32, 47]⟩ ++ dv ++ ⟨#[32, 72, 84, 84, 80, 47, 49, 46, 49, 13, 10, 104, 111, 115, 116, 58, 32, 104, 13, 10]⟩ = sv := ⟨_, rfl⟩
  obtain ⟨P, hP⟩ : ∃ P, P = headL m := ⟨_, rfl⟩
  have hSP : sv = ⟨P.toArray⟩ := by
    rw [← hS, hdv, hP, hpn]
    unfold headL
    rw [hpost, ← bapp, ← bapp, ← bapp]
    rfl
  have hPl : P.length ≤ 50 := by
    rw [hP]
    unfold headL
    have h1 := methL_len m.post
    have h2 := dec_len 4 m.path (by omega)
    simp only [List.length_append, List.length_cons, List.length_nil, hostL]
    omega
  have sv60 : sv.size ≤ 60 := by rw [hSP]; simp [ByteArray.size]; omega
  have HSP := Lib.hid hSP
  have HPL := Lib.hid hPl
  have HP := Lib.hid hP
  have u1 : ¬ (9223372036854775807 < sv.size + 30) := by omega
  obtain ⟨zv, hZ⟩ : ∃ zv : ByteArray, sv ++ ⟨#[84, 114, 97, 110, 115, 102, 101, 114, 45, 69, 110, 99, 111, 100, 105, 110, 103, 58, 32, 67, 72, 85, 78, 75, 69, 68, 13, 10, 13, 10]⟩ = zv := ⟨_, rfl⟩
  obtain ⟨Z, hZl⟩ : ∃ Z, Z = P ++ teL := ⟨_, rfl⟩
  have hZP : zv = ⟨Z.toArray⟩ := by
    rw [← hZ, hSP, hZl, ← bapp]
    rfl
  have hZn : Z.length ≤ 200 := by rw [hZl]; simp only [List.length_append, List.length_cons, List.length_nil, teL]; omega
  have hch := m.ch.toNat_lt
  obtain ⟨q, hq⟩ : ∃ q, q = m.ch.toNat := ⟨_, rfl⟩
  rw [← hq] at hch ⊢
  have hqI : (q : Int) ≤ 255 := by omega
  have HQ : Hid (q ≤ 255) := by show _ ≤ _; omega
  obtain ⟨T0, hT0⟩ : ∃ T0, T0 = Z ++ chunksP (1 + q) m.bd.length m.bd := ⟨_, rfl⟩
  have HTL : Hid (T0.length ≤ 40000) := by
    show _ ≤ _
    have := chunks_len (1 + q) (by omega) m.bd.length m.bd
    rw [hT0, List.length_append]
    omega
  have RES : Hid (wireP m = T0 ++ [48, 13, 10, 13, 10]) := by
    show _ = _
    unfold wireP
    rw [if_pos hchd, hT0, hZl, hP, ← hq]
  have HT0 := Lib.hid hT0
  have OT : Hid (∀ w2 : World, OwnT (Lib.bytesWorld w2 5 zv) w2.heap.size (.slice (some ⟨w2.heap.size, 0, none⟩) zv.size (grownCap w2 zv.size 0 5)) Z) := by
    intro w2
    rw [hZP]
    exact ownT_bytes w2 Z (by unfold maxLen; omega)
  have BW : Hid (∀ w2 : World, Below w2.heap.size w2 (Lib.bytesWorld w2 5 zv)) := by
    intro w2
    refine ⟨?_, ?_, ?_, by rw [Lib.bytesWorld_size]; omega, fun k hk => Lib.bytesWorld_at_old w2 _ _ k hk⟩
    all_goals (unfold Lib.bytesWorld World.freeze; rw [if_neg (by decide)]; rfl)
  have ZS : Hid (zv.size = Z.length) := by show _ = _; rw [hZP]; simp [ByteArray.size]
  have hconv := fun w2 => Lib.run_convert_string_bytes (P := Tryd.prog) w2 9 24 5 zv (u := .string) Tryd.underlying9 Tryd.underlying24 Tryd.underlying5
  have HBL : Hid (m.bd.length = n0) := by show _ = _; omega
  have HNBV : Hid (n0 ≤ 4096 ∧ n0 ≤ c) := by show _ ∧ _; omega
  obtain ⟨cs, hcs⟩ : ∃ cs : Array Value, cs = #[.int .u16 (pn : Int), .slice A n0 c, .int .u8 (q : Int), .bool true, .bool false] := ⟨_, rfl⟩
  have B0 : Hid (Below w.heap.size w (w.alloc (.cells cs 27))) := (Below.refl _ w).alloc (Nat.le_refl _) _
  rw [hcs] at B0
  clear hcs hr hcap hl hn0 hnb hpn hdv hds hSP hPl hP hZP hZl hZn hpost hchd hbig hT0 hq hch hp
  go_enter Tryd.func8, Tryd.ntmps8
  go_wp2_with (first
    | (go_at_call 11; go_must (refine (decimal_any pn (by omega) _).mono ?_; rintro e w1 ⟨rfl, hb⟩; rw [← HDV.out]; have q_ := heap_below (heap_alloc_new w _) hb; have k1 : w1.cell? ⟨w.heap.size, 1, none⟩ = some (.slice A n0 c) := (by rw [cell_of_row w1 w.heap.size 1 _ _ _ q_]; rfl); have k3 : w1.cell? ⟨w.heap.size, 3, none⟩ = some (.bool true) := (by rw [cell_of_row w1 w.heap.size 3 _ _ _ q_]; rfl); have k2 : (Lib.bytesWorld w1 5 zv).cell? ⟨w.heap.size, 2, none⟩ = some (.int .u8 (q : Int)) := (by rw [cell_of_row _ w.heap.size 2 _ _ _ (heap_below q_ (BW.out w1))]; rfl); clear q_; have HB1 := Lib.hid (B0.out.trans (hb.mono B0.out.size)); have HB3 := Lib.hid (HB1.out.trans ((BW.out w1).mono HB1.out.size)); clear hb)))
  clear k1 k2 k3
  have C0 : Hid (CI (1 + q) T0 w w1 (Lib.bytesWorld w1 5 zv) A n0 c w1.heap.size zv.size (grownCap w1 zv.size 0 5)) := by
    refine ⟨m.bd, Z, HBL.out.symm, ZS.out, RB.out, HNBV.out.2, HNBV.out.1, HT0.out.symm, OT.out w1, HB3.out, (BW.out w1).size⟩
  go_loopw [5, 6] (fun b o wr => ∃ (A' : Option Addr) (r c' g nO cap : Nat), b = .slice A' r c' ∧ o = .slice (some ⟨g, 0, none⟩) nO cap ∧ Hid (CI (1 + q) T0 w w1 wr A' r c' g nO cap)) (fun b _ _ => match b with | .slice _ n _ => n | _ => 0)
  case atStart => exact ⟨_, _, _, _, _, _, rfl, rfl, C0.out⟩
  case round =>
    obtain ⟨A', r, c', g, nO, cap, rfl, rfl, hO⟩ := hrel
    obtain ⟨rem, O, hr, hnO, hrd, hrc, hr4, hT, hown, hbel, hsz⟩ := hO.out
    have RD := Lib.hid hrd
    have HRC := Lib.hid hrc
    have HTT := Lib.hid hT
    have HOW := Lib.hid hown
    have HBE := Lib.hid hbel
    have HSZ := Lib.hid hsz
    have HRR := Lib.hid hr
    have HNO := Lib.hid hnO
    have hrI : (r : Int) ≤ 4096 := by omega
    have hrcI : (r : Int) ≤ (c' : Int) := by omega
    have OL : Hid (nO ≤ 40000) := by
      show _ ≤ _
      have h1 := congrArg List.length hT
      rw [List.length_append] at h1
      have := HTL.out
      omega
    clear hr hnO hrd hrc hr4 hT hown hbel hsz hO
    by_cases hz : 0 < r
    · obtain ⟨n, hn⟩ : ∃ n, n = min (1 + q) r := ⟨_, rfl⟩
      have HNN := Lib.hid hn
      have hmin : min (1 + (q : Int)) (r : Int) = (n : Int) := by omega
      have n1 : 1 ≤ n := by have := HQ.out; omega
      have n256I : (n : Int) ≤ 256 := by have := HQ.out; omega
      have n0I : (0 : Int) ≤ (n : Int) := by omega
      have ncI : (n : Int) ≤ (c' : Int) := by omega
      have nrI : (n : Int) ≤ (r : Int) := by omega
      have N256 : Hid (n ≤ 256 ∧ n ≤ r ∧ 1 ≤ n) := by show _ ∧ _; omega
      have HZ := Lib.hid hz
      clear hn
      obtain ⟨a0, ha0⟩ : ∃ z, z = lowHex.getD (n / 256) 0 := ⟨_, rfl⟩
      obtain ⟨a1, ha1⟩ : ∃ z, z = upHex.getD (n / 16 % 16) 0 := ⟨_, rfl⟩
      obtain ⟨a2, ha2⟩ : ∃ z, z = lowHex.getD (n % 16) 0 := ⟨_, rfl⟩
      have X0 : Hid ((⟨#[48, 49, 50, 51, 52, 53, 54, 55, 56, 57, 97, 98, 99, 100, 101, 102]⟩ : ByteArray).data.toList[n / 256]? = some a0) := by show _ = _; rw [ha0]; exact (hexAt ⟨n / 256, by have := N256.out; omega⟩).1
      have X1 : Hid ((⟨#[48, 49, 50, 51, 52, 53, 54, 55, 56, 57, 65, 66, 67, 68, 69, 70]⟩ : ByteArray).data.toList[n / 16 % 16]? = some a1) := by show _ = _; rw [ha1]; exact (hexAt ⟨n / 16 % 16, by omega⟩).2
      have X2 : Hid ((⟨#[48, 49, 50, 51, 52, 53, 54, 55, 56, 57, 97, 98, 99, 100, 101, 102]⟩ : ByteArray).data.toList[n % 16]? = some a2) := by show _ = _; rw [ha2]; exact (hexAt ⟨n % 16, by omega⟩).1
      obtain ⟨O1, hO1⟩ : ∃ z, z = O ++ [a0, a1, a2, 13, 10] := ⟨_, rfl⟩
      obtain ⟨O2, hO2⟩ : ∃ z, z = O1 ++ rem.take n := ⟨_, rfl⟩
      obtain ⟨O3, hO3⟩ : ∃ z, z = O2 ++ [13, 10] := ⟨_, rfl⟩
      have STEP : Hid (O3 ++ chunksP (1 + q) (rem.drop n).length (rem.drop n) = T0) := by
        show _ = _
        have h1 := HTT.out
        rw [chunks_step (1 + q) (by omega) rem (by rw [← HRR.out]; exact HZ.out), ← HRR.out, ← HNN.out] at h1
        rw [← h1, hO3, hO2, hO1, ha0, ha1, ha2]
        simp [hex3]
      have L1 : Hid (O1.length + n ≤ 50000 ∧ O2.length + 2 ≤ 50000 ∧ nO + 5 ≤ 50000) := by
        show _ ∧ _
        rw [hO2, hO1]
        have h1 := OL.out
        have h2 := HNO.out
        have h3 := N256.out
        simp only [List.length_append, List.length_take, List.length_cons, List.length_nil]
        omega
      have HO1 := Lib.hid hO1
      have HO2 := Lib.hid hO2
      have HO3 := Lib.hid hO3
      clear ha0 ha1 ha2 hO1 hO2 hO3
      go_wp2
      refine AnyC.startB (fun _ => True) (by kernel_rfl) rfl ?_
      intro w2 hb2 hs2
      have HB2 := Lib.hid hb2
      have OW2 := Lib.hid (HOW.out.below hb2)
      clear hb2 hs2
      apply AnyC.take (i := 0) rfl (by kernel_rfl) rfl
      · intro w' hC K hK
        go_wp2
        exact hK
      · rfl
      apply AnyC.take (i := 1) rfl (by kernel_rfl) rfl
      · intro w' hC K hK
        go_wp2
        exact hK
      · rfl
      apply AnyC.take (i := 2) rfl (by kernel_rfl) rfl
      · intro w' hC K hK
        go_wp2
        exact hK
      · rfl
      apply AnyC.take (i := 3) rfl (by kernel_rfl) rfl
      · intro w' hC K hK
        refine wpList_idx rfl rfl _ rfl ((n : Int) / 256) rfl (n / 256) (by omega) a0 (by with_reducible exact X0.out) ?_
        go_wp2
        exact hK
      · rfl
      apply AnyC.take (i := 4) rfl (by kernel_rfl) rfl
      · intro w' hC K hK
        go_wp2
        exact hK
      · rfl
      apply AnyC.take (i := 5) rfl (by kernel_rfl) rfl
      · intro w' hC K hK
        go_wp2
        exact hK
      · rfl
      apply AnyC.take (i := 6) rfl (by kernel_rfl) rfl
      · intro w' hC K hK
        go_wp2
        exact hK
      · rfl
      apply AnyC.take (i := 7) rfl (by kernel_rfl) rfl
      · intro w' hC K hK
        refine wpList_idx rfl rfl _ rfl ((n : Int) / 16 % 16) rfl (n / 16 % 16) (by omega) a1 (by with_reducible exact X1.out) ?_
        go_wp2
        exact hK
      · rfl
      apply AnyC.take (i := 8) rfl (by kernel_rfl) rfl
      · intro w' hC K hK
        go_wp2
        exact hK
      · rfl
      apply AnyC.take (i := 9) rfl (by kernel_rfl) rfl
      · intro w' hC K hK
        go_wp2
        exact hK
      · rfl
      apply AnyC.take (i := 10) rfl (by kernel_rfl) rfl
      · intro w' hC K hK
        refine wpList_idx rfl rfl _ rfl ((n : Int) % 16) rfl (n % 16) (by omega) a2 (by with_reducible exact X2.out) ?_
        go_wp2
        exact hK
      · rfl
      apply AnyC.solo (i := 11) rfl (by kernel_rfl) trivial
      go_wp2
      refine ⟨rfl, ?_⟩
      apply AnyC.solo (i := 12) rfl (by kernel_rfl) trivial
      have NB : Hid (Below w2.heap.size w2 (w2.alloc (.cells (bvs [a0, a1, a2, 13, 10]).toArray 5))) := (Below.refl _ _).alloc (Nat.le_refl _) _
      refine appT (l := O) (news := [a0, a1, a2, 13, 10]) (base := w1.heap.size) rfl rfl rfl rfl (OW2.out.below NB.out) (reads_block (l := [a0, a1, a2, 13, 10]) (n := 5) (heap_alloc_new w2 _) rfl) (by have h1 := L1.out; have h2 := HNO.out; omega) (Nat.le_trans HSZ.out (Nat.le_trans HB2.out.size NB.out.size)) ?_
      intro v3 w3 ho hg hx
      rw [← HO1.out] at ho
      obtain ⟨g3, c3, hv3, hb3, _⟩ := ho.reads
      subst hv3
      have O3_ := Lib.hid ho
      have E2 : Hid (Below w.heap.size w (w2.alloc (.cells (bvs [a0, a1, a2, 13, 10]).toArray 5))) := (HBE.out.trans (HB2.out.mono HBE.out.size)).trans (NB.out.mono (Nat.le_trans HBE.out.size HB2.out.size))
      have BG : Hid (∀ k, Value.ownBlock (.slice (some ⟨g, 0, none⟩) nO cap) = some k → w1.heap.size ≤ k) := by
        intro k hk
        obtain ⟨g9, c9, h1, h2, _⟩ := HOW.out.reads
        cases hk
        injection h1 with h1 _ _
        cases h1
        exact h2
      have B3 := Lib.hid (Below.grown E2.out hg E2.out.size (fun k hk => Nat.le_trans HB1.out.size (BG.out k hk)))
      have Z3 := Lib.hid (Nat.le_trans (Nat.le_trans HSZ.out (Nat.le_trans HB2.out.size NB.out.size)) hg.size)
      have G3 := Lib.hid hb3
      clear ho hg hx hb3
      go_wp2
      refine ⟨rfl, ?_⟩
      apply AnyC.take (i := 13) rfl (by kernel_rfl) rfl
      · intro w' hC K hK
        go_wp2
        exact hK
      · rfl
      refine AnyC.done trivial (by kernel_rfl) ?_
      have V0 : Hid True := trivial
      go_wp2_with (first
        | (at_builtin; have hx_ := V0; go_must (refine appT (l := O1) (news := rem.take n) (base := w1.heap.size) (B := w.heap.size) rfl rfl rfl rfl O3_.out (by have h1 := (RD.out.below B3.out).take (k := n) N256.out.2.1; rw [Nat.mul_one] at h1; rw [show bvs (rem.take n) = (bvs rem).take n from by simp [bvs]]; exact h1) (by have h1 := L1.out; omega) Z3.out ?_; intro v4 w4 ho hg hx; rw [← HO2.out] at ho; obtain ⟨g4, c4, hv4, hb4, _⟩ := ho.reads; subst hv4; have O4_ := Lib.hid ho; have B4 := Lib.hid (Below.grown B3.out hg B3.out.size (fun k hk => by cases hk; exact Nat.le_trans HB1.out.size G3.out)); have Z4 := Lib.hid (Nat.le_trans Z3.out hg.size); have G4 := Lib.hid hb4; clear ho hg hx hb4 V0 hx_))
        | (at_builtin; go_must (
            have NB4 : Below w4.heap.size w4 (w4.alloc (.cells (bvs [13, 10]).toArray 5)) := (Below.refl _ _).alloc (Nat.le_refl _) _
            refine appT (l := O2) (news := [13, 10]) (base := w1.heap.size) rfl rfl rfl rfl (O4_.out.below NB4) (reads_block (l := [13, 10]) (n := 2) (heap_alloc_new w4 _) rfl) (by have h1 := L1.out; omega) (Nat.le_trans Z4.out NB4.size) ?_
            intro v5 w5 ho hg hx
            rw [← HO3.out] at ho
            obtain ⟨g5, c5, hv5, hb5, _⟩ := ho.reads
            subst hv5
            have O5_ := Lib.hid ho
            have B5 := Lib.hid (Below.grown (B4.out.trans (NB4.mono B4.out.size)) hg (Nat.le_trans B4.out.size NB4.size) (fun k hk => by cases hk; exact Nat.le_trans HB1.out.size G4.out))
            have Z5 := Lib.hid (Nat.le_trans (Nat.le_trans Z4.out NB4.size) hg.size)
            clear ho hg hx hb5 NB4)))
      go_roundw
      case rel =>
        refine ⟨_, _, _, _, _, _, rfl, rfl, rem.drop n, O3, ?_, rfl, ?_, ?_, ?_, STEP.out, O5_.out, B5.out, Z5.out⟩
        · rw [List.length_drop, ← HRR.out]
        · have h1 := RD.out.cut (k := n) (cap := c') N256.out.2.1 HRC.out
          simp only [Nat.mul_one] at h1
          rw [show bvs (rem.drop n) = (bvs rem).drop n from by simp [bvs]]
          exact h1
        · have h1 := HRC.out; have h2 := N256.out; omega
        · omega
      case measure => have h2 := N256.out; simp only; omega
    · have hr0 : r = 0 := by omega
      subst hr0
      have OT0 : Hid (OwnT wr w1.heap.size (.slice (some ⟨g, 0, none⟩) nO cap) T0) := by
        show OwnT _ _ _ _
        have h1 := HTT.out
        rw [chunks_nil _ _ HRR.out.symm, List.append_nil] at h1
        rw [← h1]
        exact HOW.out
      have BG : Hid (∀ k, Value.ownBlock (.slice (some ⟨g, 0, none⟩) nO cap) = some k → w1.heap.size ≤ k) := by
        intro k hk
        obtain ⟨g9, c9, h1, h2, _⟩ := HOW.out.reads
        cases hk
        injection h1 with h1 _ _
        cases h1
        exact h2
      obtain ⟨TT, hTT⟩ : ∃ z, z = T0 ++ [48, 13, 10, 13, 10] := ⟨_, rfl⟩
      have HTTT := Lib.hid hTT
      have RES2 : Hid (wireP m = TT) := by show _ = _; rw [hTT]; exact RES.out
      clear hTT hz
      go_wp2_with (at_builtin; go_must (refine appTs (l := T0) (news := [48, 13, 10, 13, 10]) (base := w1.heap.size) rfl rfl rfl rfl OT0.out (by have h1 := HTL.out; simp only [List.length_cons, List.length_nil]; omega) HSZ.out ?_; intro v5 w5 ho hg hx; rw [← HTTT.out] at ho; obtain ⟨g5, c5, hv5, hb5, hr5⟩ := ho.reads; subst hv5; have R5 := Lib.hid hr5; have B5 := Lib.hid (Below.grown HBE.out hg HBE.out.size (fun k hk => Nat.le_trans HB1.out.size (BG.out k hk))); clear ho hg hx hb5 hr5))
      go_ret
      rw [RES2.out]
      exact ⟨_, c5, rfl, R5.out, B5.out⟩
set_option maxRecDepth 100000 in
set_option maxHeartbeats 4000000 in
theorem wireC01 (m : MadeV) (A : Option Addr) (c : Nat) (w : World) (hp : m.path < 65536) (hr : Reads w w.heap.size 1 A m.body.length (bvs m.body)) (hcap : m.body.length ≤ c) (hl : m.body.length ≤ 140737488351232) (hpost : m.post = false) (hchd : m.chd = true) (hbig : 4096 < m.body.length) :
    Calls Tryd.prog 8 #[.agg #[.int .u16 (m.path : Int), .slice A m.body.length c, .int .u8 (m.ch.toNat : Int), .bool true, .bool false]] w (RPost (wireP m) w) := by
  have HR := Lib.hid hr
  have HL := Lib.hid hl
  obtain ⟨n0, hn0⟩ : ∃ n, n = m.body.length := ⟨_, rfl⟩
  rw [← hn0] at HR ⊢
  have HN0 := Lib.hid hn0
  have gb : decide ((4096 : Int) < (n0 : Int)) = true := by simp; omega
  have gc : (4096 : Int) ≤ (c : Int) := by omega
  have hnb : m.bd.length = 4096 := by unfold MadeV.bd; rw [List.length_take]; omega
  have RB : Hid (Reads w w.heap.size 1 A 4096 (bvs m.bd)) := by
    show Reads _ _ _ _ _ _
    have h1 := HR.out.take (k := 4096) (by omega)
    rw [Nat.mul_one] at h1
    rw [show bvs m.bd = (bvs m.body).take 4096 from by unfold MadeV.bd; simp [bvs]]
    exact h1
  have HNB := Lib.hid hnb
  obtain ⟨pn, hpn⟩ : ∃ p, p = m.path := ⟨_, rfl⟩
  rw [← hpn] at hp ⊢
  have HPN := Lib.hid hpn
  have hpI : (pn : Int) ≤ 65535 := by omega
  obtain ⟨dv, hdv⟩ : ∃ dv : ByteArray, dv = ⟨(Lib.decDigits pn).toArray⟩ := ⟨_, rfl⟩
  have hds : dv.size = (Lib.decDigits pn).length := by rw [hdv]; simp [ByteArray.size]
  have ds20 : dv.size ≤ 20 := by rw [hds]; have := dec_len 4 pn (by omega); omega
  have HDV := Lib.hid hdv
  have t1 : ¬ (9223372036854775807 < 5 + dv.size) := by omega
  have t2 : ¬ (9223372036854775807 < 5 + dv.size + 20) := by omega
  obtain ⟨sv, hS⟩ : ∃ sv : ByteArray, (⟨#[71, 69, 84]⟩ : ByteArray) ++ ⟨#[32, 47]⟩ ++ dv ++ ⟨#[32, 72, 84, 84, 80, 47, 49, 46, 49, 13, 10, 104, 111, 115, 116, 58, 32, 104, 13, 10]⟩ = sv := ⟨_, rfl⟩
  obtain ⟨P, hP⟩ : ∃ P, P = headL m := ⟨_, rfl⟩
  have hSP : sv = ⟨P.toArray⟩ := by
    rw [← hS, hdv, hP, hpn]
    unfold headL
    rw [hpost, ← bapp, ← bapp, ← bapp]
    rfl
  have hPl : P.length ≤ 50 := by
    rw [hP]
    unfold headL
    have h1 := methL_len m.post
    have h2 := dec_len 4 m.path (by omega)
    simp only [List.length_append, List.length_cons, List.length_nil, hostL]
    omega
  have sv60 : sv.size ≤ 60 := by rw [hSP]; simp [ByteArray.size]; omega
  have HSP := Lib.hid hSP
  have HPL := Lib.hid hPl
  have HP := Lib.hid hP
  have u1 : ¬ (9223372036854775807 < sv.size + 30) := by omega
  obtain ⟨zv, hZ⟩ : ∃ zv : ByteArray, sv ++ ⟨#[84, 114, 97, 110, 115, 102, 101, 114, 45, 69, 110, 99, 111, 100, 105, 110, 103, 58, 32, 67, 72, 85, 78, 75, 69, 68, 13, 10, 13, 10]⟩ = zv := ⟨_, rfl⟩
  obtain ⟨Z, hZl⟩ : ∃ Z, Z = P ++ teL := ⟨_, rfl⟩
  have hZP : zv = ⟨Z.toArray⟩ := by
    rw [← hZ, hSP, hZl, ← bapp]
    rfl
  have hZn : Z.length ≤ 200 := by rw [hZl]; simp only [List.length_append, List.length_cons, List.length_nil, teL]; omega
  have hch := m.ch.toNat_lt
  obtain ⟨q, hq⟩ : ∃ q, q = m.ch.toNat := ⟨_, rfl⟩
  rw [← hq] at hch ⊢
  have hqI : (q : Int) ≤ 255 := by omega
  have HQ : Hid (q ≤ 255) := by show _ ≤ _; omega
  obtain ⟨T0, hT0⟩ : ∃ T0, T0 = Z ++ chunksP (1 + q) m.bd.length m.bd := ⟨_, rfl⟩
  have HTL : Hid (T0.length ≤ 40000) := by
    show _ ≤ _
    have := chunks_len (1 + q) (by omega) m.bd.length m.bd
    rw [hT0, List.length_append]
    omega
  have RES : Hid (wireP m = T0 ++ [48, 13, 10, 13, 10]) := by
    show _ = _
    unfold wireP
    rw [if_pos hchd, hT0, hZl, hP, ← hq]
  have HT0 := Lib.hid hT0
  have OT : Hid (∀ w2 : World, OwnT (Lib.bytesWorld w2 5 zv) w2.heap.size (.slice (some ⟨w2.heap.size, 0, none⟩) zv.size (grownCap w2 zv.size 0 5)) Z) := by
    intro w2
    rw [hZP]
    exact ownT_bytes w2 Z (by unfold maxLen; omega)
  have BW : Hid (∀ w2 : World, Below w2.heap.size w2 (Lib.bytesWorld w2 5 zv)) := by
    intro w2
    refine ⟨?_, ?_, ?_, by rw [Lib.bytesWorld_size]; omega, fun k hk => Lib.bytesWorld_at_old w2 _ _ k hk⟩
    all_goals (unfold Lib.bytesWorld World.freeze; rw [if_neg (by decide)]; rfl)
  have ZS : Hid (zv.size = Z.length) := by show _ = _; rw [hZP]; simp [ByteArray.size]
  have hconv := fun w2 => Lib.run_convert_string_bytes (P := Tryd.prog) w2 9 24 5 zv (u := .string) Tryd.underlying9 Tryd.underlying24 Tryd.underlying5
  have HBL : Hid (m.bd.length = 4096) := by show _ = _; omega
  have HNBV : Hid (4096 ≤ 4096 ∧ 4096 ≤ c) := by show _ ∧ _; omega
  obtain ⟨cs, hcs⟩ : ∃ cs : Array Value, cs = #[.int .u16 (pn : Int), .slice A n0 c, .int .u8 (q : Int), .bool true, .bool false] := ⟨_, rfl⟩
  have B0 : Hid (Below w.heap.size w (w.alloc (.cells cs 27))) := (Below.refl _ w).alloc (Nat.le_refl _) _
  rw [hcs] at B0
  clear hcs hr hcap hl hn0 hnb hpn hdv hds hSP hPl hP hZP hZl hZn hpost hchd hbig hT0 hq hch hp
  go_enter Tryd.func8, Tryd.ntmps8
  go_wp2_with (first
    | (go_at_call 11; go_must (refine (decimal_any pn (by omega) _).mono ?_; rintro e w1 ⟨rfl, hb⟩; rw [← HDV.out]; have q_ := heap_below (heap_alloc_new w _) hb; have k1 : w1.cell? ⟨w.heap.size, 1, none⟩ = some (.slice A n0 c) := (by rw [cell_of_row w1 w.heap.size 1 _ _ _ q_]; rfl); have k3 : w1.cell? ⟨w.heap.size, 3, none⟩ = some (.bool true) := (by rw [cell_of_row w1 w.heap.size 3 _ _ _ q_]; rfl); have k2 : (Lib.bytesWorld w1 5 zv).cell? ⟨w.heap.size, 2, none⟩ = some (.int .u8 (q : Int)) := (by rw [cell_of_row _ w.heap.size 2 _ _ _ (heap_below q_ (BW.out w1))]; rfl); clear q_; have HB1 := Lib.hid (B0.out.trans (hb.mono B0.out.size)); have HB3 := Lib.hid (HB1.out.trans ((BW.out w1).mono HB1.out.size)); clear hb)))
  clear k1 k2 k3
  have C0 : Hid (CI (1 + q) T0 w w1 (Lib.bytesWorld w1 5 zv) A 4096 c w1.heap.size zv.size (grownCap w1 zv.size 0 5)) := by
    refine ⟨m.bd, Z, HBL.out.symm, ZS.out, RB.out, HNBV.out.2, HNBV.out.1, HT0.out.symm, OT.out w1, HB3.out, (BW.out w1).size⟩
  go_loopw [5, 6] (fun b o wr => ∃ (A' : Option Addr) (r c' g nO cap : Nat), b = .slice A' r c' ∧ o = .slice (some ⟨g, 0, none⟩) nO cap ∧ Hid (CI (1 + q) T0 w w1 wr A' r c' g nO cap)) (fun b _ _ => match b with | .slice _ n _ => n | _ => 0)
  case atStart => exact ⟨_, _, _, _, _, _, rfl, rfl, C0.out⟩
  case round =>
    obtain ⟨A', r, c', g, nO, cap, rfl, rfl, hO⟩ := hrel
    obtain ⟨rem, O, hr, hnO, hrd, hrc, hr4, hT, hown, hbel, hsz⟩ := hO.out
    have RD := Lib.hid hrd
    have HRC := Lib.hid hrc
    have HTT := Lib.hid hT
    have HOW := Lib.hid hown
    have HBE := Lib.hid hbel
    have HSZ := Lib.hid hsz
    have HRR := Lib.hid hr
    have HNO := Lib.hid hnO
    have hrI : (r : Int) ≤ 4096 := by omega
    have hrcI : (r : Int) ≤ (c' : Int) := by omega
    have OL : Hid (nO ≤ 40000) := by
      show _ ≤ _
      have h1 := congrArg List.length hT
      rw [List.length_append] at h1
      have := HTL.out
      omega
    clear hr hnO hrd hrc hr4 hT hown hbel hsz hO
    by_cases hz : 0 < r
    · obtain ⟨n, hn⟩ : ∃ n, n = min (1 + q) r := ⟨_, rfl⟩
      have HNN := Lib.hid hn
      have hmin : min (1 + (q : Int)) (r : Int) = (n : Int) := by omega
      have n1 : 1 ≤ n := by have := HQ.out; omega
      have n256I : (n : Int) ≤ 256 := by have := HQ.out; omega
      have n0I : (0 : Int) ≤ (n : Int) := by omega
      have ncI : (n : Int) ≤ (c' : Int) := by omega
      have nrI : (n : Int) ≤ (r : Int) := by omega
      have N256 : Hid (n ≤ 256 ∧ n ≤ r ∧ 1 ≤ n) := by show _ ∧ _; omega
      have HZ := Lib.hid hz
      clear hn
      obtain ⟨a0, ha0⟩ : ∃ z, z = lowHex.getD (n / 256) 0 := ⟨_, rfl⟩
      obtain ⟨a1, ha1⟩ : ∃ z, z = upHex.getD (n / 16 % 16) 0 := ⟨_, rfl⟩
      obtain ⟨a2, ha2⟩ : ∃ z, z = lowHex.getD (n % 16) 0 := ⟨_, rfl⟩
      have X0 : Hid ((⟨#[48, 49, 50, 51, 52, 53, 54, 55, 56, 57, 97, 98, 99, 100, 101, 102]⟩ : ByteArray).data.toList[n / 256]? = some a0) := by show _ = _; rw [ha0]; exact (hexAt ⟨n / 256, by have := N256.out; omega⟩).1
      have X1 : Hid ((⟨#[48, 49, 50, 51, 52, 53, 54, 55, 56, 57, 65, 66, 67, 68, 69, 70]⟩ : ByteArray).data.toList[n / 16 % 16]? = some a1) := by show _ = _; rw [ha1]; exact (hexAt ⟨n / 16 % 16, by omega⟩).2
      have X2 : Hid ((⟨#[48, 49, 50, 51, 52, 53, 54, 55, 56, 57, 97, 98, 99, 100, 101, 102]⟩ : ByteArray).data.toList[n % 16]? = some a2) := by show _ = _; rw [ha2]; exact (hexAt ⟨n % 16, by omega⟩).1
      obtain ⟨O1, hO1⟩ : ∃ z, z = O ++ [a0, a1, a2, 13, 10] := ⟨_, rfl⟩
      obtain ⟨O2, hO2⟩ : ∃ z, z = O1 ++ rem.take n := ⟨_, rfl⟩
      obtain ⟨O3, hO3⟩ : ∃ z, z = O2 ++ [13, 10] := ⟨_, rfl⟩
      have STEP : Hid (O3 ++ chunksP (1 + q) (rem.drop n).length (rem.drop n) = T0) := by
        show _ = _
        have h1 := HTT.out
        rw [chunks_step (1 + q) (by omega) rem (by rw [← HRR.out]; exact HZ.out), ← HRR.out, ← HNN.out] at h1
        rw [← h1, hO3, hO2, hO1, ha0, ha1, ha2]
        simp [hex3]
      have L1 : Hid (O1.length + n ≤ 50000 ∧ O2.length + 2 ≤ 50000 ∧ nO + 5 ≤ 50000) := by
        show _ ∧ _
        rw [hO2, hO1]
        have h1 := OL.out
        have h2 := HNO.out
        have h3 := N256.out
        simp only [List.length_append, List.length_take, List.length_cons, List.length_nil]
        omega
      have HO1 := Lib.hid hO1
      have HO2 := Lib.hid hO2
      have HO3 := Lib.hid hO3
      clear ha0 ha1 ha2 hO1 hO2 hO3
      go_wp2
      refine AnyC.startB (fun _ => True) (by kernel_rfl) rfl ?_
      intro w2 hb2 hs2
      have HB2 := Lib.hid hb2
      have OW2 := Lib.hid (HOW.out.below hb2)
      clear hb2 hs2
      apply AnyC.take (i := 0) rfl (by kernel_rfl) rfl
      · intro w' hC K hK
        go_wp2
        exact hK
      · rfl
      apply AnyC.take (i := 1) rfl (by kernel_rfl) rfl
      · intro w' hC K hK
        go_wp2
        exact hK
      · rfl
      apply AnyC.take (i := 2) rfl (by kernel_rfl) rfl
      · intro w' hC K hK
        go_wp2
        exact hK
      · rfl
      apply AnyC.take (i := 3) rfl (by kernel_rfl) rfl
      · intro w' hC K hK
        refine wpList_idx rfl rfl _ rfl ((n : Int) / 256) rfl (n / 256) (by omega) a0 (by with_reducible exact X0.out) ?_
        go_wp2
        exact hK
      · rfl
      apply AnyC.take (i := 4) rfl (by kernel_rfl) rfl
      · intro w' hC K hK
        go_wp2
        exact hK
      · rfl
      apply AnyC.take (i := 5) rfl (by kernel_rfl) rfl
      · intro w' hC K hK
        go_wp2
        exact hK
      · rfl
      apply AnyC.take (i := 6) rfl (by kernel_rfl) rfl
      · intro w' hC K hK
        go_wp2
        exact hK
      · rfl
      apply AnyC.take (i := 7) rfl (by kernel_rfl) rfl
      · intro w' hC K hK
        refine wpList_idx rfl rfl _ rfl ((n : Int) / 16 % 16) rfl (n / 16 % 16) (by omega) a1 (by with_reducible exact X1.out) ?_
        go_wp2
        exact hK
      · rfl
      apply AnyC.take (i := 8) rfl (by kernel_rfl) rfl
      · intro w' hC K hK
        go_wp2
        exact hK
      · rfl
      apply AnyC.take (i := 9) rfl (by kernel_rfl) rfl
      · intro w' hC K hK
        go_wp2
        exact hK
      · rfl
      apply AnyC.take (i := 10) rfl (by kernel_rfl) rfl
      · intro w' hC K hK
        refine wpList_idx rfl rfl _ rfl ((n : Int) % 16) rfl (n % 16) (by omega) a2 (by with_reducible exact X2.out) ?_
        go_wp2
        exact hK
      · rfl
      apply AnyC.solo (i := 11) rfl (by kernel_rfl) trivial
      go_wp2
      refine ⟨rfl, ?_⟩
      apply AnyC.solo (i := 12) rfl (by kernel_rfl) trivial
      have NB : Hid (Below w2.heap.size w2 (w2.alloc (.cells (bvs [a0, a1, a2, 13, 10]).toArray 5))) := (Below.refl _ _).alloc (Nat.le_refl _) _
      refine appT (l := O) (news := [a0, a1, a2, 13, 10]) (base := w1.heap.size) rfl rfl rfl rfl (OW2.out.below NB.out) (reads_block (l := [a0, a1, a2, 13, 10]) (n := 5) (heap_alloc_new w2 _) rfl) (by have h1 := L1.out; have h2 := HNO.out; omega) (Nat.le_trans HSZ.out (Nat.le_trans HB2.out.size NB.out.size)) ?_
      intro v3 w3 ho hg hx
      rw [← HO1.out] at ho
      obtain ⟨g3, c3, hv3, hb3, _⟩ := ho.reads
      subst hv3
      have O3_ := Lib.hid ho
      have E2 : Hid (Below w.heap.size w (w2.alloc (.cells (bvs [a0, a1, a2, 13, 10]).toArray 5))) := (HBE.out.trans (HB2.out.mono HBE.out.size)).trans (NB.out.mono (Nat.le_trans HBE.out.size HB2.out.size))
      have BG : Hid (∀ k, Value.ownBlock (.slice (some ⟨g, 0, none⟩) nO cap) = some k → w1.heap.size ≤ k) := by
        intro k hk
        obtain ⟨g9, c9, h1, h2, _⟩ := HOW.out.reads
        cases hk
        injection h1 with h1 _ _
        cases h1
        exact h2
      have B3 := Lib.hid (Below.grown E2.out hg E2.out.size (fun k hk => Nat.le_trans HB1.out.size (BG.out k hk)))
      have Z3 := Lib.hid (Nat.le_trans (Nat.le_trans HSZ.out (Nat.le_trans HB2.out.size NB.out.size)) hg.size)
      have G3 := Lib.hid hb3
      clear ho hg hx hb3
      go_wp2
      refine ⟨rfl, ?_⟩
      apply AnyC.take (i := 13) rfl (by kernel_rfl) rfl
      · intro w' hC K hK
        go_wp2
        exact hK
      · rfl
      refine AnyC.done trivial (by kernel_rfl) ?_
      have V0 : Hid True := trivial
      go_wp2_with (first
        | (at_builtin; have hx_ := V0; go_must (refine appT (l := O1) (news := rem.take n) (base := w1.heap.size) (B := w.heap.size) rfl rfl rfl rfl O3_.out (by have h1 := (RD.out.below B3.out).take (k := n) N256.out.2.1; rw [Nat.mul_one] at h1; rw [show bvs (rem.take n) = (bvs rem).take n from by simp [bvs]]; exact h1) (by have h1 := L1.out; omega) Z3.out ?_; intro v4 w4 ho hg hx; rw [← HO2.out] at ho; obtain ⟨g4, c4, hv4, hb4, _⟩ := ho.reads; subst hv4; have O4_ := Lib.hid ho; have B4 := Lib.hid (Below.grown B3.out hg B3.out.size (fun k hk => by cases hk; exact Nat.le_trans HB1.out.size G3.out)); have Z4 := Lib.hid (Nat.le_trans Z3.out hg.size); have G4 := Lib.hid hb4; clear ho hg hx hb4 V0 hx_))
        | (at_builtin; go_must (
            have NB4 : Below w4.heap.size w4 (w4.alloc (.cells (bvs [13, 10]).toArray 5)) := (Below.refl _ _).alloc (Nat.le_refl _) _
            refine appT (l := O2) (news := [13, 10]) (base := w1.heap.size) rfl rfl rfl rfl (O4_.out.below NB4) (reads_block (l := [13, 10]) (n := 2) (heap_alloc_new w4 _) rfl) (by have h1 := L1.out; omega) (Nat.le_trans Z4.out NB4.size) ?_
            intro v5 w5 ho hg hx
            rw [← HO3.out] at ho
            obtain ⟨g5, c5, hv5, hb5, _⟩ := ho.reads
            subst hv5
            have O5_ := Lib.hid ho
            have B5 := Lib.hid (Below.grown (B4.out.trans (NB4.mono B4.out.size)) hg (Nat.le_trans B4.out.size NB4.size) (fun k hk => by cases hk; exact Nat.le_trans HB1.out.size G4.out))
            have Z5 := Lib.hid (Nat.le_trans (Nat.le_trans Z4.out NB4.size) hg.size)
            clear ho hg hx hb5 NB4)))
      go_roundw
      case rel =>
        refine ⟨_, _, _, _, _, _, rfl, rfl, rem.drop n, O3, ?_, rfl, ?_, ?_, ?_, STEP.out, O5_.out, B5.out, Z5.out⟩
        · rw [List.length_drop, ← HRR.out]
        · have h1 := RD.out.cut (k := n) (cap := c') N256.out.2.1 HRC.out
          simp only [Nat.mul_one] at h1
          rw [show bvs (rem.drop n) = (bvs rem).drop n from by simp [bvs]]
          exact h1
        · have h1 := HRC.out; have h2 := N256.out; omega
        · omega
      case measure => have h2 := N256.out; simp only; omega
    · have hr0 : r = 0 := by omega
      subst hr0
      have OT0 : Hid (OwnT wr w1.heap.size (.slice (some ⟨g, 0, none⟩) nO cap) T0) := by
        show OwnT _ _ _ _
        have h1 := HTT.out
        rw [chunks_nil _ _ HRR.out.symm, List.append_nil] at h1
        rw [← h1]
        exact HOW.out
      have BG : Hid (∀ k, Value.ownBlock (.slice (some ⟨g, 0, none⟩) nO cap) = some k → w1.heap.size ≤ k) := by
        intro k hk
        obtain ⟨g9, c9, h1, h2, _⟩ := HOW.out.reads
        cases hk
        injection h1 with h1 _ _
        cases h1
        exact h2
      obtain ⟨TT, hTT⟩ : ∃ z, z = T0 ++ [48, 13, 10, 13, 10] := ⟨_, rfl⟩
      have HTTT := Lib.hid hTT
      have RES2 : Hid (wireP m = TT) := by show _ = _; rw [hTT]; exact RES.out
      clear hTT hz
      go_wp2_with (at_builtin; go_must (refine appTs (l := T0) (news := [48, 13, 10, 13, 10]) (base := w1.heap.size) rfl rfl rfl rfl OT0.out (by have h1 := HTL.out; simp only [List.length_cons, List.length_nil]; omega) HSZ.out ?_; intro v5 w5 ho hg hx; rw [← HTTT.out] at ho; obtain ⟨g5, c5, hv5, hb5, hr5⟩ := ho.reads; subst hv5; have R5 := Lib.hid hr5; have B5 := Lib.hid (Below.grown HBE.out hg HBE.out.size (fun k hk => Nat.le_trans HB1.out.size (BG.out k hk))); clear ho hg hx hb5 hr5))
      go_ret
      rw [RES2.out]
      exact ⟨_, c5, rfl, R5.out, B5.out⟩
end Go.Proofs.YtjichadkonlfpaaDoor
