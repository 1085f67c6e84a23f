/- The texts JC1 JC2 of this work, merged by wip/merge.py. No conditions. -/
import Derived.Test.YtkbopeoaoakfnaaDoorQJB
import Derived.Laws.Runes
import Derived.WalkMore
import Derived.Laws.RangeAny
import Derived.Deep.LoopGhost
namespace Go.Proofs.YtkbopeoaoakfnaaDoor
open Go.RowKit
def hexS : List UInt8 := [48, 49, 50, 51, 52, 53, 54, 55, 56, 57, 97, 98, 99, 100, 101, 102]
theorem below_iter (w : World) (s : ByteArray) (pos : Nat) : Below w.heap.size w (w.iter s pos) := (Below.refl _ _).alloc (Nat.le_refl _) _
theorem hex_high (c : UInt8) (h : 128 ≤ c.toNat) (k : Nat) : Lib.indexByte (hexS.drop k) c = -1 := by
  have h1 : ∀ l : List UInt8, (∀ b ∈ l, b.toNat < 128) → Lib.indexByte l c = -1 := by
    intro l
    induction l with
    | nil => intro _; rfl
    | cons b l ih =>
      intro hl
      have hb : (b == c) = false := by
        rw [beq_eq_false_iff_ne]
        intro e
        subst e
        have := hl b (by simp)
        omega
      simp [Lib.indexByte, hb, ih (fun x hx => hl x (by simp [hx]))]
  refine h1 _ fun b hb => ?_
  have h2 := List.mem_of_mem_drop hb
  have h3 : ∀ b ∈ hexS, b.toNat < 128 := by decide
  exact h3 b h2
set_option maxRecDepth 100000 in
set_option maxHeartbeats 400000 in
theorem indexRune_high (r : Int) (w : World) (h0 : 128 ≤ r) (h1 : r ≤ 1114111) (hs : ¬ (55296 ≤ r ∧ r ≤ 57343)) : Calls Tryd.prog 123 #[.string ⟨#[48, 49, 50, 51, 52, 53, 54, 55, 56, 57, 97, 98, 99, 100, 101, 102]⟩, .int .i32 r] w fun x w' => x = .returned (.int .i64 (-1)) ∧ Below w.heap.size w w' := by
  have hd1 : decide (0 ≤ r) = true := by simp; omega
  have hd2 : decide (r < 128) = false := by simp; omega
  by_cases he : r = 65533
  · subst he
    go_enter Tryd.func123, Tryd.ntmps123
    go_wp2_with fail
    go_loopw [] (fun wr => ∃ pos : Nat, wr.heap[w.heap.size]? = some (.stringIter ⟨hexS.toArray⟩ pos) ∧ Below w.heap.size w wr) (fun wr => 16 - wr.iterPos w.heap.size)
    case atStart => exact ⟨0, World.iter_heap w _ 0, below_iter w _ 0⟩
    case round =>
      obtain ⟨pos, hit, hbw⟩ := hrel
      by_cases hp : pos < (⟨hexS.toArray⟩ : ByteArray).size
      · have hx : ((⟨hexS.toArray⟩ : ByteArray)[pos]'hp).toNat < 128 := by
          have h3 : ∀ b ∈ hexS, b.toNat < 128 := by decide
          exact h3 _ (List.getElem_mem (l := hexS) hp)
        have hnx : ∀ ty, (Instr.next (.pointer (some ⟨w.heap.size, 0, none⟩)) true ty).run Tryd.prog wr = _ := fun ty => Lib.run_next_ascii_at wr w.heap.size _ pos ty hit hp hx
        obtain ⟨c, hc⟩ : ∃ c : Nat, c = ((⟨hexS.toArray⟩ : ByteArray)[pos]'hp).toNat := ⟨_, rfl⟩
        rw [← hc] at hnx hx
        have hne : ((c : Int) == 65533) = false := by simp; omega
        have hit2 := Lib.iterAt_heap wr w.heap.size _ pos (pos + 1) hit
        have hbw2 := Lib.below_iterAt hbw (Nat.le_refl _) ⟨hexS.toArray⟩ (pos + 1)
        have hp16 : pos < 16 := hp
        clear hc hp
        go_wp2
        go_roundw
        case rel => exact ⟨pos + 1, hit2, hbw2⟩
        case measure => simp only [World.iterPos, hit2, hit]; omega
      · have hnx : ∀ ty, (Instr.next (.pointer (some ⟨w.heap.size, 0, none⟩)) true ty).run Tryd.prog wr = _ := fun ty => Lib.run_next_end_at wr w.heap.size _ pos ty hit hp
        go_wp2
        go_ret
        exact ⟨rfl, hbw⟩
  · have hd3 : (r == 65533) = false := by simp [he]
    have hv : Lib.validRune r = true := by simp [Lib.validRune]; omega
    have hv2 : Utf8.valid r = true := by simp [Utf8.valid]; omega
    obtain ⟨z1, z2, z3⟩ := encode_facts r hv2 h0
    obtain ⟨E, hE⟩ : ∃ E, E = Utf8.encode r := ⟨_, rfl⟩
    have HE := Lib.hid hE
    rw [← hE] at z1 z2 z3
    clear hE
    go_enter Tryd.func123, Tryd.ntmps123
    go_wp2_with (go_at_call 128; go_must (refine (Tryd.utf8_ValidRune _ _).mono ?_; rintro e w1 ⟨rfl, hw_⟩; have hw_ := hw_.symm; subst hw_; rw [hv]))
    have hcv : ∀ w', (convert 21 9 (.int .i32 r)).run Tryd.prog w' = .ok (.string E) w' := fun w' => by rw [HE.out]; exact run_convert_int_string w' _ _ _ _ rfl Tryd.underlying9
    obtain ⟨n, hn⟩ : ∃ n, E.size = n + 1 := ⟨E.size - 1, by omega⟩
    have z4 : (E.size : Int) ≤ 4 := by omega
    have z5 : (2 : Int) ≤ (E.size : Int) := by omega
    go_wp2
    go_step3
    go_wp2
    have hn13 : n = 1 ∨ n = 2 ∨ n = 3 := by omega
    have HN := Lib.hid hn13
    go_loopw [9] (fun i wr => i = .int .i64 (n : Int) ∧ wr = w) (fun _ _ => 0)
    case atStart => exact ⟨rfl, rfl⟩
    case round =>
      obtain ⟨rfl, rfl⟩ := hrel
      have hnlt : n < E.size := by omega
      have z6 : 128 ≤ (E[n]'hnlt).toNat := by
        have h_ := z3 (by omega)
        have e1 : E.size - 1 = n := by omega
        simpa only [e1] using h_
      obtain ⟨c, hc⟩ : ∃ c : UInt8, c = E[n]'hnlt := ⟨_, rfl⟩
      have hn16 : (n : Int) < 16 := by omega
      have hn0 : (0 : Int) ≤ (n : Int) := by omega
      have hnE : (n : Int) < (E.size : Int) := by omega
      have hn16' : n < 16 := by omega
      clear z3
      have S4 : Hid (∀ h1 : n < (⟨#[48, 49, 50, 51, 52, 53, 54, 55, 56, 57, 97, 98, 99, 100, 101, 102]⟩ : ByteArray).size, (((((⟨#[48, 49, 50, 51, 52, 53, 54, 55, 56, 57, 97, 98, 99, 100, 101, 102]⟩ : ByteArray)[n]'h1).toNat : Int) != ((E[n]'hnlt).toNat : Int)) = true)) := by
        intro h1
        have h2 : ((⟨#[48, 49, 50, 51, 52, 53, 54, 55, 56, 57, 97, 98, 99, 100, 101, 102]⟩ : ByteArray)[n]'h1).toNat < 128 := by
          have h3 : ∀ b ∈ hexS, b.toNat < 128 := by decide
          exact h3 _ (List.getElem_mem (l := hexS) (n := n) h1)
        simp only [bne_iff_ne, ne_eq]
        omega
      have hdE : decide (n < E.size) = true := by simp; exact hnlt
      have HNE := Lib.hid hn
      have IX : Hid (Lib.indexByte ((⟨#[48, 49, 50, 51, 52, 53, 54, 55, 56, 57, 97, 98, 99, 100, 101, 102]⟩ : ByteArray).extract (n + 1) 16).data.toList (((E[n]'hnlt).toNat : Int).toNat.toUInt8) = -1) := by
        show _ = _
        have e1 : ((⟨#[48, 49, 50, 51, 52, 53, 54, 55, 56, 57, 97, 98, 99, 100, 101, 102]⟩ : ByteArray).extract (n + 1) 16).data.toList = hexS.drop (n + 1) := by
          have h_ := extract_drop hexS (n + 1)
          have h2_ : (⟨#[48, 49, 50, 51, 52, 53, 54, 55, 56, 57, 97, 98, 99, 100, 101, 102]⟩ : ByteArray).extract (n + 1) 16 = ⟨(hexS.drop (n + 1)).toArray⟩ := h_
          rw [h2_]
        rw [e1]
        refine hex_high _ ?_ _
        simp only [Int.toNat_natCast]
        simpa using z6
      clear hn z1 z2 z4 z5 z6 hc hn13
      go_wp2
      go_step3
      go_wp2
      go_quiet (fail)
      rw [S4.out]
      have hn17 : (n : Int) + 1 ≤ 16 := by omega
      have hn18 : (0 : Int) ≤ (n : Int) + 1 := by omega
      go_wp2
      refine AnyC.startB (fun w' => Below wr.heap.size wr w') (by kernel_rfl) rfl ?_
      intro w1 hb1 hs1
      have B1 := Lib.hid ((show Below wr.heap.size wr (wr.drewN nq) from ⟨rfl, rfl, rfl, Nat.le_refl _, fun _ _ => rfl⟩).trans hb1)
      clear hb1 hs1
      apply AnyC.take (i := 0) rfl (by kernel_rfl) rfl
      · intro w' hC K hK
        go_wp2
        exact hK
      · rfl
      apply AnyC.take (i := 1) rfl (by kernel_rfl) rfl
      · intro w' hC K hK
        go_wp2
        exact hK
      · rfl
      apply AnyC.take (i := 2) rfl (by kernel_rfl) rfl
      · intro w' hC K hK
        go_wp2
        exact hK
      · rfl
      apply AnyC.take (i := 3) rfl (by kernel_rfl) rfl
      · intro w' hC K hK
        go_wp2
        exact hK
      · rfl
      apply AnyC.take (i := 4) rfl (by kernel_rfl) rfl
      · intro w' hC K hK
        go_wp2
        exact hK
      · rfl
      apply AnyC.take (i := 5) rfl (by kernel_rfl) rfl
      · intro w' hC K hK
        go_wp2
        exact hK
      · rfl
      apply AnyC.take (i := 6) rfl (by kernel_rfl) rfl
      · intro w' hC K hK
        go_wp2
        exact hK
      · rfl
      apply AnyC.solo (i := 7) rfl (by kernel_rfl) B1.out
      go_wp2_with (go_at_call 107; go_must (have hib := Tryd.strings_IndexByte ((⟨#[48, 49, 50, 51, 52, 53, 54, 55, 56, 57, 97, 98, 99, 100, 101, 102]⟩ : ByteArray).extract (n + 1) 16) ((E[n]'hnlt).toNat : Int) w1; rw [IX.out] at hib; refine hib.mono ?_; clear hib; rintro e w2 ⟨rfl, hw2⟩; have hw2 := hw2.symm; subst hw2))
      refine ⟨rfl, ?_⟩
      apply AnyC.take (i := 8) rfl (by kernel_rfl) rfl
      · intro w' hC K hK
        go_wp2
        exact hK
      · rfl
      refine AnyC.done B1.out (by kernel_rfl) ?_
      go_wp2
      rw [Exit.noGoto_ret]
      go_wp2
      rw [Exit.noGoto_ret]
      go_ret
      exact ⟨rfl, B1.out⟩
/-- Where a rune stands among the hexadecimal digits. -/
def hexI (r : Int) : Int := if r < 128 then Lib.indexByte hexS r.toNat.toUInt8 else -1
theorem indexRune_any (r : Int) (w : World) (h0 : 0 ≤ r) (h1 : r ≤ 1114111) (hs : ¬ (55296 ≤ r ∧ r ≤ 57343)) : Calls Tryd.prog 123 #[.string ⟨#[48, 49, 50, 51, 52, 53, 54, 55, 56, 57, 97, 98, 99, 100, 101, 102]⟩, .int .i32 r] w fun x w' => x = .returned (.int .i64 (hexI r)) ∧ Below w.heap.size w w' := by
  unfold hexI
  split
  · rename_i h
    refine (Tryd.strings_IndexRune_ascii _ r w h0 h).mono ?_
    rintro e w' ⟨rfl, rfl⟩
    exact ⟨rfl, Below.refl _ _⟩
  · exact indexRune_high r w (by omega) h1 hs
end Go.Proofs.YtkbopeoaoakfnaaDoor

namespace Go.Proofs.YtkbopeoaoakfnaaDoor
open Go.RowKit
theorem decodeN_valid (n b0 b1 b2 b3 : Nat) (h0 : b0 < 256) : (Lib.decodeN n b0 b1 b2 b3).1 < 55296 ∨ (57343 < (Lib.decodeN n b0 b1 b2 b3).1 ∧ (Lib.decodeN n b0 b1 b2 b3).1 ≤ 1114111) := by
  rcases Lib.decodeN_shape n b0 b1 b2 b3 with ⟨c, e⟩ | ⟨c1, c2, c3, cv, e⟩ | ⟨c1, c2, c3, c4, cv, cs, e⟩ | ⟨c1, c2, c3, c4, c5, cv, cw, e⟩ | e <;> rw [e] <;> dsimp only <;> omega
theorem decode_valid (s : ByteArray) (k : Nat) : (Utf8.decode s k).1 < 55296 ∨ (57343 < (Utf8.decode s k).1 ∧ (Utf8.decode s k).1 ≤ 1114111) := by
  rw [Lib.decode_N]
  exact decodeN_valid _ _ _ _ _ (UInt8.toNat_lt _)
theorem or32_div (c : Nat) : (c ||| 32) / 2048 = c / 2048 := by
  have h := Nat.shiftRight_or_distrib (a := c) (b := 32) (i := 11)
  rw [Nat.shiftRight_eq_div_pow, Nat.shiftRight_eq_div_pow, Nat.shiftRight_eq_div_pow] at h
  simpa using h
theorem or32_ge (c : Nat) : c ≤ c ||| 32 := Nat.left_le_or
theorem bits_or32 (a b : Nat) (ha : a < 2147483648) (hb : b < 2147483648) : bits .or .i32 (a : Int) (b : Int) = ((a ||| b : Nat) : Int) := by
  have hx : a ||| b < 2 ^ 31 := Nat.or_lt_two_pow (by omega) (by omega)
  have h1 : (BitVec.ofInt 32 (a : Int)).toNat = a := by
    rw [BitVec.ofInt_natCast, BitVec.toNat_ofNat]; exact Nat.mod_eq_of_lt (by omega)
  have h2 : (BitVec.ofInt 32 (b : Int)).toNat = b := by
    rw [BitVec.ofInt_natCast, BitVec.toNat_ofNat]; exact Nat.mod_eq_of_lt (by omega)
  show IntKind.i32.wrap ((BitVec.ofInt 32 (a : Int) ||| BitVec.ofInt 32 (b : Int)).toNat : Int) = _
  rw [BitVec.toNat_or, h1, h2]
  generalize a ||| b = n at *
  simp [IntKind.wrap, IntKind.bits, IntKind.signed]
  omega
theorem hex_fact : ∀ c : Nat, c < 128 → (hexI ((c ||| 32 : Nat) : Int) < 0 ∨ c < 48 ∨ 102 < c ∨ (57 < c ∧ c < 65) → hexZ c < 0) ∧ (¬ (hexI ((c ||| 32 : Nat) : Int) < 0 ∨ c < 48 ∨ 102 < c ∨ (57 < c ∧ c < 65)) → hexZ c = hexI ((c ||| 32 : Nat) : Int) ∧ hexZ c < 16) := by decide +kernel
set_option maxRecDepth 100000 in
set_option maxHeartbeats 400000 in
theorem half_any (c f : Int) (w : World) (hf : f = 55296 ∨ f = 56320) : Calls Tryd.prog 109 #[.int .i32 c, .int .i32 f] w fun x w' => x = .returned (.bool (decide (f ≤ c ∧ c < f + 1024))) ∧ w' = w := by
  rcases hf with rfl | rfl
  · by_cases h1 : (55296 : Int) ≤ c
    · by_cases h2 : c < 56320
      · have d1 : decide ((55296 : Int) ≤ c) = true := by simp [h1]
        have d1' : decide (c ≥ (55296 : Int)) = true := by simp [h1]
        have d2 : decide (c < (56320 : Int)) = true := by simp [h2]
        go_enter Tryd.func109, Tryd.ntmps109
        go_wp2
        go_ret
        refine ⟨?_, rfl⟩
        simp [h1, h2]
      · have d1 : decide ((55296 : Int) ≤ c) = true := by simp [h1]
        have d1' : decide (c ≥ (55296 : Int)) = true := by simp [h1]
        have d2 : decide (c < (56320 : Int)) = false := by simp; omega
        go_enter Tryd.func109, Tryd.ntmps109
        go_wp2
        go_ret
        refine ⟨?_, rfl⟩
        simp
    · have d1 : decide ((55296 : Int) ≤ c) = false := by simp; omega
      have d1' : decide (c ≥ (55296 : Int)) = false := by simp; omega
      go_enter Tryd.func109, Tryd.ntmps109
      go_wp2
      go_ret
      refine ⟨?_, rfl⟩
      simp
  · by_cases h1 : (56320 : Int) ≤ c
    · by_cases h2 : c < 57344
      · have d1 : decide ((56320 : Int) ≤ c) = true := by simp [h1]
        have d1' : decide (c ≥ (56320 : Int)) = true := by simp [h1]
        have d2 : decide (c < (57344 : Int)) = true := by simp [h2]
        go_enter Tryd.func109, Tryd.ntmps109
        go_wp2
        go_ret
        refine ⟨?_, rfl⟩
        simp [h1, h2]
      · have d1 : decide ((56320 : Int) ≤ c) = true := by simp [h1]
        have d1' : decide (c ≥ (56320 : Int)) = true := by simp [h1]
        have d2 : decide (c < (57344 : Int)) = false := by simp; omega
        go_enter Tryd.func109, Tryd.ntmps109
        go_wp2
        go_ret
        refine ⟨?_, rfl⟩
        simp
    · have d1 : decide ((56320 : Int) ≤ c) = false := by simp; omega
      have d1' : decide (c ≥ (56320 : Int)) = false := by simp; omega
      go_enter Tryd.func109, Tryd.ntmps109
      go_wp2
      go_ret
      refine ⟨?_, rfl⟩
      simp
theorem wrap32_small (x : Int) (h0 : 0 ≤ x) (h1 : x < 2147483648) : wrap32 x = x := by
  unfold wrap32
  omega
theorem or_digit (n : Nat) (d : Int) (hn : n < 65536) (h0 : 0 ≤ d) (h1 : d < 16) : bits .or .i32 (wrap32 ((n : Int) * 16)) (wrap32 d) = ((n * 16 + d.toNat : Nat) : Int) := by
  rw [wrap32_small _ (by omega) (by omega), wrap32_small _ h0 (by omega)]
  obtain ⟨m, rfl⟩ : ∃ m : Nat, d = (m : Int) := ⟨d.toNat, by omega⟩
  rw [show (n : Int) * 16 = ((n * 16 : Nat) : Int) by omega, bits_or32 _ _ (by omega) (by omega), Int.toNat_natCast]
  have h := Nat.two_pow_add_eq_or_of_lt (i := 4) (b := m) (by omega) n
  rw [show n * 16 = 2 ^ 4 * n by omega, ← h]
theorem slice_fact (sb : ByteArray) (i j : Nat) (h1 : i ≤ j) (h2 : j ≤ sb.size) (I J : Int) (hI : I = (i : Int)) (hJ : J = (j : Int)) (w : World) : (Instr.slice 9 (.string sb) (some (.int .i64 I)) (some (.int .i64 J)) none).run Tryd.prog w = .ok (.string (sb.extract i j)) w := by
  subst hI hJ
  have h := run_slice_string (P := Tryd.prog) w 9 sb .i64 .i64 (i : Int) (j : Int) Tryd.underlying9 (by omega) (by omega) (by omega)
  simpa using h
section
variable {w0 w w' : World} {base g : Nat} {s : List UInt8} {st : PS}
theorem At.iterAt {j : Nat} {q : ByteArray} {pos' : Nat} {wa : World} (h : At w0 base g s w st) (hj : w.heap.size ≤ j) (hb : Below w.heap.size w wa) : At w0 base g s (wa.iterAt j q pos') st := h.below (Lib.below_iterAt hb hj q pos')
set_option maxRecDepth 100000 in
set_option maxHeartbeats 800000 in
theorem code_at (h : At w0 base g s w st) (k : Nat) (hk : k ≤ 10000) : Calls Tryd.prog 108 #[.pointer (some ⟨g, 0, none⟩), .int .i64 (k : Int)] w fun x w' => x = .returned (.int .i32 (codeP s k)) ∧ At w0 base g s w' st := by
  obtain ⟨c0, c1, c2, fz⟩ := h.cells
  have hl8 := h.len8
  obtain ⟨sb, hsb⟩ : ∃ sb : ByteArray, sb = ⟨s.toArray⟩ := ⟨_, rfl⟩
  have hsz : sb.size = s.length := by rw [hsb]; simp [ByteArray.size]
  rw [← hsb] at c0
  have hkI : (k : Int) ≤ 10000 := by omega
  have hk0 : (0 : Int) ≤ (k : Int) := by omega
  have hs8 : (sb.size : Int) ≤ 8192 := by omega
  by_cases hlong : s.length < k + 6
  · have d1 : decide ((k : Int) + 6 > (sb.size : Int)) = true := by simp; omega
    have d1' : decide ((sb.size : Int) < (k : Int) + 6) = true := by simp; omega
    have HR : Hid (codeP s k = -1) := by show _ = _; unfold codeP; rw [if_pos (Or.inl hlong)]
    clear hlong hsz hsb
    go_enter Tryd.func108, Tryd.ntmps108
    go_wp2
    go_ret
    exact ⟨by rw [HR.out]; rfl, h⟩
  · have d1 : decide ((k : Int) + 6 > (sb.size : Int)) = false := by simp; omega
    have d1' : decide ((sb.size : Int) < (k : Int) + 6) = false := by simp; omega
    have hx1 : sb.extract k (k + 2) = ⟨((s.drop k).take 2).toArray⟩ := by rw [hsb, extract_mid, Nat.add_sub_cancel_left]
    have hx2 : sb.extract (k + 2) (k + 6) = ⟨((s.drop (k + 2)).take 4).toArray⟩ := by rw [hsb, extract_mid, show k + 6 - (k + 2) = 4 by omega]
    have hle2 : (k : Int) + 2 ≤ (sb.size : Int) := by omega
    have hle6 : (k : Int) + 6 ≤ (sb.size : Int) := by omega
    have hq4 : ((s.drop (k + 2)).take 4).length = 4 := by rw [List.length_take, List.length_drop]; omega
    have H1 := Lib.hid hx1
    have H2 := Lib.hid hx2
    have HL := Lib.hid hlong
    clear hlong hsb hx1 hx2
    obtain ⟨q, hq⟩ : ∃ q, q = (s.drop (k + 2)).take 4 := ⟨_, rfl⟩
    have hsl1 := slice_fact sb k (k + 2) (by omega) (by omega) (k : Int) ((k : Int) + 2) rfl (by omega)
    have hsl2 := slice_fact sb (k + 2) (k + 6) (by omega) (by omega) ((k : Int) + 2) ((k : Int) + 6) (by omega) (by omega)
    rw [H1.out] at hsl1
    rw [H2.out, ← hq] at hsl2
    rw [← hq] at hq4
    clear hsz
    by_cases hu : (s.drop k).take 2 = [92, 117]
    · have d2 : (!((s.drop k).take 2 == [92, 117])) = false := by simp [hu]
      have HR : Hid (codeP s k = hexP q 0) := by show _ = _; unfold codeP; rw [if_neg (fun h => h.elim HL.out (fun h => h hu)), hq]
      have HQ := Lib.hid hq4
      clear hu hq hq4
      go_enter Tryd.func108, Tryd.ntmps108
      go_wp2
      obtain ⟨qb, hqb⟩ : ∃ qb : ByteArray, qb = ⟨q.toArray⟩ := ⟨_, rfl⟩
      have hqz : qb.size = 4 := by rw [hqb]; simpa [ByteArray.size] using HQ.out
      rw [← hqb]
      have HQB := Lib.hid hqb
      clear hqb
      go_loopw [5] (fun v wr => ∃ (pos n : Nat), pos ≤ 4 ∧ v = .int .i32 (n : Int) ∧ n < 16 ^ pos ∧ hexP (q.drop pos) (n : Int) = hexP q 0 ∧ wr.heap[w.heap.size]? = some (.stringIter qb pos) ∧ Below w.heap.size w wr) (fun _ wr => 4 - wr.iterPos w.heap.size)
      case atStart => exact ⟨0, 0, by omega, rfl, by decide, rfl, World.iter_heap w _ 0, below_iter w _ 0⟩
      case round =>
        obtain ⟨pos, n, hp4, rfl, hn, hhex, hit, hbw⟩ := hrel
        by_cases hp : pos < 4
        · have hps : pos < qb.size := by omega
          have hql : pos < q.length := by have := HQ.out; omega
          have hqe : (qb[pos]'hps) = q[pos]'hql := by
            have h_ := HQB.out
            subst h_
            rfl
          have hdrop := word_drop hql
          obtain ⟨b, hb⟩ : ∃ b : UInt8, b = q[pos]'hql := ⟨_, rfl⟩
          rw [← hb] at hqe hdrop
          rw [hdrop] at hhex
          have HX := Lib.hid hhex
          have HN := Lib.hid hn
          have hbw2 := Lib.below_iterAt hbw (Nat.le_refl _) qb (pos + (Utf8.decode qb pos).2)
          have hit2 := Lib.iterAt_heap wr w.heap.size qb pos (pos + (Utf8.decode qb pos).2) hit
          have hnx : ∀ ty, (Instr.next (.pointer (some ⟨w.heap.size, 0, none⟩)) true ty).run Tryd.prog wr = _ := fun ty => Lib.run_next_any_at wr w.heap.size qb pos ty hit hps
          by_cases hasc : b.toNat < 128
          · have hdec : Utf8.decode qb pos = (b.toNat, 1) := by rw [decode_ascii qb pos hps (by rw [hqe]; exact hasc), hqe]
            rw [hdec] at hnx hbw2 hit2
            obtain ⟨c, hc⟩ : ∃ c : Nat, c = b.toNat := ⟨_, rfl⟩
            rw [← hc] at hnx hasc
            have hor : bits .or .i32 (c : Int) 32 = ((c ||| 32 : Nat) : Int) := bits_or32 c 32 (by omega) (by omega)
            obtain ⟨hf1, hf2⟩ := hex_fact c hasc
            have HC := Lib.hid hc
            have HASC := Lib.hid hasc
            have hlt128 : c ||| 32 < 128 := Nat.or_lt_two_pow (n := 7) hasc (by decide)
            obtain ⟨m, hm⟩ : ∃ m : Nat, m = (c ||| 32) := ⟨_, rfl⟩
            rw [← hm] at hor hf1 hf2 hlt128
            have HM := Lib.hid hlt128
            obtain ⟨d, hd⟩ : ∃ d : Int, d = hexI (m : Int) := ⟨_, rfl⟩
            rw [← hd] at hf1 hf2
            have HD := Lib.hid hd
            have HF1 := Lib.hid hf1
            have HF2 := Lib.hid hf2
            clear hdec hqe hdrop hhex hn hb hc hasc hf1 hf2 hm hlt128 hd
            go_wp2_with (go_at_call 123; go_must (refine (indexRune_any (m : Int) _ (by omega) (by have h_ := HM.out; omega) (by have h_ := HM.out; omega)).mono ?_; rw [← HD.out]; rintro e w5 ⟨rfl, hb5⟩; have it5 := heap_below hit2 hb5; have bw5 := hbw2.trans (hb5.mono hbw2.size)))
            all_goals first
              | (have hz : hexZ c < 0 := HF1.out (by omega)
                 go_ret
                 refine ⟨?_, h.below bw5⟩
                 rw [HR.out, ← HX.out]
                 unfold hexP
                 rw [← HC.out, if_pos hz]
                 rfl)
              | (obtain ⟨hz, hz2⟩ := HF2.out (by omega)
                 go_roundw
                 case rel =>
                   have hnp := HN.out
                   have hp5 : 16 ^ (pos + 1) = 16 ^ pos * 16 := Nat.pow_succ ..
                   have hp6 : 16 ^ pos ≤ 16 ^ 3 := Nat.pow_le_pow_right (by decide) (by omega)
                   refine ⟨pos + 1, n * 16 + d.toNat, by omega, ?_, by omega, ?_, it5, bw5⟩
                   · rw [or_digit n d (by omega) (by omega) (by omega)]
                   · rw [← HX.out]
                     conv => rhs; unfold hexP
                     rw [← HC.out, if_neg (by omega), hz]
                     congr 1
                     omega
                 case measure => simp only [World.iterPos, it5, hit]; omega)
          · have hhi := decode_high qb pos hps (by rw [hqe]; omega)
            have hva := decode_valid qb pos
            obtain ⟨r, hr⟩ : ∃ r, r = Utf8.decode qb pos := ⟨_, rfl⟩
            rw [← hr] at hnx hbw2 hit2 hhi hva
            obtain ⟨c, wd⟩ := r
            simp only at hnx hbw2 hit2 hhi hva
            have hor : bits .or .i32 (c : Int) 32 = ((c ||| 32 : Nat) : Int) := bits_or32 c 32 (by omega) (by omega)
            have hdv := or32_div c
            have hge := or32_ge c
            obtain ⟨m, hm⟩ : ∃ m : Nat, m = (c ||| 32) := ⟨_, rfl⟩
            rw [← hm] at hor hdv hge
            have HM := Lib.hid (show 128 ≤ m ∧ m ≤ 1114111 ∧ ¬ (55296 ≤ m ∧ m ≤ 57343) by omega)
            have HD := Lib.hid (show hexI (m : Int) = -1 by have h_ := HM.out; unfold hexI; rw [if_neg (by omega)])
            have HZ : Hid (hexZ b.toNat < 0) := by
              show _ < _
              unfold hexZ
              rw [if_neg (by omega), if_neg (by omega), if_neg (by omega)]
              decide
            clear hqe hdrop hhex hn hb hasc hm hr hdv hge hhi hva
            go_wp2_with (go_at_call 123; go_must (refine (indexRune_any (m : Int) _ (by omega) (by have h_ := HM.out; omega) (by have h_ := HM.out; omega)).mono ?_; rw [HD.out]; rintro e w5 ⟨rfl, hb5⟩; have it5 := heap_below hit2 hb5; have bw5 := hbw2.trans (hb5.mono hbw2.size)))
            go_ret
            refine ⟨?_, h.below bw5⟩
            rw [HR.out, ← HX.out]
            unfold hexP
            rw [if_pos HZ.out]
            rfl
        · have hnx : ∀ ty, (Instr.next (.pointer (some ⟨w.heap.size, 0, none⟩)) true ty).run Tryd.prog wr = _ := fun ty => Lib.run_next_end_at wr w.heap.size qb pos ty hit (by omega)
          go_wp2
          go_ret
          refine ⟨?_, h.below hbw⟩
          have hd0 : q.drop pos = [] := List.drop_eq_nil_of_le (by have := HQ.out; omega)
          rw [hd0] at hhex
          rw [HR.out, ← hhex]
          rfl
    · have d2 : (!((s.drop k).take 2 == [92, 117])) = true := by simp [hu]
      have HR : Hid (codeP s k = -1) := by show _ = _; unfold codeP; rw [if_pos (Or.inr hu)]
      clear hu
      go_enter Tryd.func108, Tryd.ntmps108
      go_wp2
      go_ret
      exact ⟨by rw [HR.out]; rfl, h⟩
end
end Go.Proofs.YtkbopeoaoakfnaaDoor
