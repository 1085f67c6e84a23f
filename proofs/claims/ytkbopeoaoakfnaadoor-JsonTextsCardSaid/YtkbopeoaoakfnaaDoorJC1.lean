/- strings.IndexRune in "0123456789abcdef". No conditions. -/
import Derived.Test.YtkbopeoaoakfnaaDoorJ6
import Derived.Laws.Runes
import Derived.WalkMore
namespace Go.Proofs.YtkbopeoaoakfnaaDoor
open Go.RowKit
def hexS : List UInt8 := [48, 49, 50, 51, 52, 53, 54, 55, 56, 57, 97, 98, 99, 100, 101, 102]
theorem below_iter (w : World) (s : ByteArray) (pos : Nat) : Below w.heap.size w (w.iter s pos) := (Below.refl _ _).alloc (Nat.le_refl _) _
theorem hex_high (c : UInt8) (h : 128 ≤ c.toNat) (k : Nat) : Lib.indexByte (hexS.drop k) c = -1 := by
  have h1 : ∀ l : List UInt8, (∀ b ∈ l, b.toNat < 128) → Lib.indexByte l c = -1 := by
    intro l
    induction l with
    | nil => intro _; rfl
    | cons b l ih =>
      intro hl
      have hb : (b == c) = false := by
        rw [beq_eq_false_iff_ne]
        intro e
        subst e
        have := hl b (by simp)
        omega
      simp [Lib.indexByte, hb, ih (fun x hx => hl x (by simp [hx]))]
  refine h1 _ fun b hb => ?_
  have h2 := List.mem_of_mem_drop hb
  have h3 : ∀ b ∈ hexS, b.toNat < 128 := by decide
  exact h3 b h2
set_option maxRecDepth 100000 in
set_option maxHeartbeats 400000 in
theorem indexRune_high (r : Int) (w : World) (h0 : 128 ≤ r) (h1 : r ≤ 1114111) (hs : ¬ (55296 ≤ r ∧ r ≤ 57343)) : Calls Tryd.prog 123 #[.string ⟨#[48, 49, 50, 51, 52, 53, 54, 55, 56, 57, 97, 98, 99, 100, 101, 102]⟩, .int .i32 r] w fun x w' => x = .returned (.int .i64 (-1)) ∧ Below w.heap.size w w' := by
  have hd1 : decide (0 ≤ r) = true := by simp; omega
  have hd2 : decide (r < 128) = false := by simp; omega
  by_cases he : r = 65533
  · subst he
    go_enter Tryd.func123, Tryd.ntmps123
    go_wp2_with fail
    go_loopw [] (fun wr => ∃ pos : Nat, wr.heap[w.heap.size]? = some (.stringIter ⟨hexS.toArray⟩ pos) ∧ Below w.heap.size w wr) (fun wr => 16 - wr.iterPos w.heap.size)
    case atStart => exact ⟨0, World.iter_heap w _ 0, below_iter w _ 0⟩
    case round =>
      obtain ⟨pos, hit, hbw⟩ := hrel
      by_cases hp : pos < (⟨hexS.toArray⟩ : ByteArray).size
      · have hx : ((⟨hexS.toArray⟩ : ByteArray)[pos]'hp).toNat < 128 := by
          have h3 : ∀ b ∈ hexS, b.toNat < 128 := by decide
          exact h3 _ (List.getElem_mem (l := hexS) hp)
        have hnx : ∀ ty, (Instr.next (.pointer (some ⟨w.heap.size, 0, none⟩)) true ty).run Tryd.prog wr = _ := fun ty => Lib.run_next_ascii_at wr w.heap.size _ pos ty hit hp hx
        obtain ⟨c, hc⟩ : ∃ c : Nat, c = ((⟨hexS.toArray⟩ : ByteArray)[pos]'hp).toNat := ⟨_, rfl⟩
        rw [← hc] at hnx hx
        have hne : ((c : Int) == 65533) = false := by simp; omega
        have hit2 := Lib.iterAt_heap wr w.heap.size _ pos (pos + 1) hit
        have hbw2 := Lib.below_iterAt hbw (Nat.le_refl _) ⟨hexS.toArray⟩ (pos + 1)
        have hp16 : pos < 16 := hp
        clear hc hp
        go_wp2
        go_roundw
        case rel => exact ⟨pos + 1, hit2, hbw2⟩
        case measure => simp only [World.iterPos, hit2, hit]; omega
      · have hnx : ∀ ty, (Instr.next (.pointer (some ⟨w.heap.size, 0, none⟩)) true ty).run Tryd.prog wr = _ := fun ty => Lib.run_next_end_at wr w.heap.size _ pos ty hit hp
        go_wp2
        go_ret
        exact ⟨rfl, hbw⟩
  · have hd3 : (r == 65533) = false := by simp [he]
    have hv : Lib.validRune r = true := by simp [Lib.validRune]; omega
    have hv2 : Utf8.valid r = true := by simp [Utf8.valid]; omega
    obtain ⟨z1, z2, z3⟩ := encode_facts r hv2 h0
    obtain ⟨E, hE⟩ : ∃ E, E = Utf8.encode r := ⟨_, rfl⟩
    have HE := Lib.hid hE
    rw [← hE] at z1 z2 z3
    clear hE
    go_enter Tryd.func123, Tryd.ntmps123
    go_wp2_with (go_at_call 128; go_must (refine (Tryd.utf8_ValidRune _ _).mono ?_; rintro e w1 ⟨rfl, hw_⟩; have hw_ := hw_.symm; subst hw_; rw [hv]))
    have hcv : ∀ w', (convert 21 9 (.int .i32 r)).run Tryd.prog w' = .ok (.string E) w' := fun w' => by rw [HE.out]; exact run_convert_int_string w' _ _ _ _ rfl Tryd.underlying9
    obtain ⟨n, hn⟩ : ∃ n, E.size = n + 1 := ⟨E.size - 1, by omega⟩
    have z4 : (E.size : Int) ≤ 4 := by omega
    have z5 : (2 : Int) ≤ (E.size : Int) := by omega
    go_wp2
    go_step3
    go_wp2
    have hn13 : n = 1 ∨ n = 2 ∨ n = 3 := by omega
    have HN := Lib.hid hn13
    go_loopw [9] (fun i wr => i = .int .i64 (n : Int) ∧ wr = w) (fun _ _ => 0)
    case atStart => exact ⟨rfl, rfl⟩
    case round =>
      obtain ⟨rfl, rfl⟩ := hrel
      have hnlt : n < E.size := by omega
      have z6 : 128 ≤ (E[n]'hnlt).toNat := by
        have h_ := z3 (by omega)
        have e1 : E.size - 1 = n := by omega
        simpa only [e1] using h_
      obtain ⟨c, hc⟩ : ∃ c : UInt8, c = E[n]'hnlt := ⟨_, rfl⟩
      have hn16 : (n : Int) < 16 := by omega
      have hn0 : (0 : Int) ≤ (n : Int) := by omega
      have hnE : (n : Int) < (E.size : Int) := by omega
      have hn16' : n < 16 := by omega
      clear z3
      have S4 : Hid (∀ h1 : n < (⟨#[48, 49, 50, 51, 52, 53, 54, 55, 56, 57, 97, 98, 99, 100, 101, 102]⟩ : ByteArray).size, (((((⟨#[48, 49, 50, 51, 52, 53, 54, 55, 56, 57, 97, 98, 99, 100, 101, 102]⟩ : ByteArray)[n]'h1).toNat : Int) != ((E[n]'hnlt).toNat : Int)) = true)) := by
        intro h1
        have h2 : ((⟨#[48, 49, 50, 51, 52, 53, 54, 55, 56, 57, 97, 98, 99, 100, 101, 102]⟩ : ByteArray)[n]'h1).toNat < 128 := by
          have h3 : ∀ b ∈ hexS, b.toNat < 128 := by decide
          exact h3 _ (List.getElem_mem (l := hexS) (n := n) h1)
        simp only [bne_iff_ne, ne_eq]
        omega
      have hdE : decide (n < E.size) = true := by simp; exact hnlt
      have HNE := Lib.hid hn
      have IX : Hid (Lib.indexByte ((⟨#[48, 49, 50, 51, 52, 53, 54, 55, 56, 57, 97, 98, 99, 100, 101, 102]⟩ : ByteArray).extract (n + 1) 16).data.toList (((E[n]'hnlt).toNat : Int).toNat.toUInt8) = -1) := by
        show _ = _
        have e1 : ((⟨#[48, 49, 50, 51, 52, 53, 54, 55, 56, 57, 97, 98, 99, 100, 101, 102]⟩ : ByteArray).extract (n + 1) 16).data.toList = hexS.drop (n + 1) := by
          have h_ := extract_drop hexS (n + 1)
          have h2_ : (⟨#[48, 49, 50, 51, 52, 53, 54, 55, 56, 57, 97, 98, 99, 100, 101, 102]⟩ : ByteArray).extract (n + 1) 16 = ⟨(hexS.drop (n + 1)).toArray⟩ := h_
          rw [h2_]
        rw [e1]
        refine hex_high _ ?_ _
        simp only [Int.toNat_natCast]
        simpa using z6
      clear hn z1 z2 z4 z5 z6 hc hn13
      go_wp2
      go_step3
      go_wp2
      go_quiet (fail)
      rw [S4.out]
      have hn17 : (n : Int) + 1 ≤ 16 := by omega
      have hn18 : (0 : Int) ≤ (n : Int) + 1 := by omega
      go_wp2
      refine AnyC.startB (fun w' => Below wr.heap.size wr w') (by kernel_rfl) rfl ?_
      intro w1 hb1 hs1
      have B1 := Lib.hid ((show Below wr.heap.size wr (wr.drewN nq) from ⟨rfl, rfl, rfl, Nat.le_refl _, fun _ _ => rfl⟩).trans hb1)
      clear hb1 hs1
      apply AnyC.take (i := 0) rfl (by kernel_rfl) rfl
      · intro w' hC K hK
        go_wp2
        exact hK
      · rfl
      apply AnyC.take (i := 1) rfl (by kernel_rfl) rfl
      · intro w' hC K hK
        go_wp2
        exact hK
      · rfl
      apply AnyC.take (i := 2) rfl (by kernel_rfl) rfl
      · intro w' hC K hK
        go_wp2
        exact hK
      · rfl
      apply AnyC.take (i := 3) rfl (by kernel_rfl) rfl
      · intro w' hC K hK
        go_wp2
        exact hK
      · rfl
      apply AnyC.take (i := 4) rfl (by kernel_rfl) rfl
      · intro w' hC K hK
        go_wp2
        exact hK
      · rfl
      apply AnyC.take (i := 5) rfl (by kernel_rfl) rfl
      · intro w' hC K hK
        go_wp2
        exact hK
      · rfl
      apply AnyC.take (i := 6) rfl (by kernel_rfl) rfl
      · intro w' hC K hK
        go_wp2
        exact hK
      · rfl
      apply AnyC.solo (i := 7) rfl (by kernel_rfl) B1.out
      go_wp2_with (go_at_call 107; go_must (have hib := Tryd.strings_IndexByte ((⟨#[48, 49, 50, 51, 52, 53, 54, 55, 56, 57, 97, 98, 99, 100, 101, 102]⟩ : ByteArray).extract (n + 1) 16) ((E[n]'hnlt).toNat : Int) w1; rw [IX.out] at hib; refine hib.mono ?_; clear hib; rintro e w2 ⟨rfl, hw2⟩; have hw2 := hw2.symm; subst hw2))
      refine ⟨rfl, ?_⟩
      apply AnyC.take (i := 8) rfl (by kernel_rfl) rfl
      · intro w' hC K hK
        go_wp2
        exact hK
      · rfl
      refine AnyC.done B1.out (by kernel_rfl) ?_
      go_wp2
      rw [Exit.noGoto_ret]
      go_wp2
      rw [Exit.noGoto_ret]
      go_ret
      exact ⟨rfl, B1.out⟩
/-- Where a rune stands among the hexadecimal digits. -/
def hexI (r : Int) : Int := if r < 128 then Lib.indexByte hexS r.toNat.toUInt8 else -1
theorem indexRune_any (r : Int) (w : World) (h0 : 0 ≤ r) (h1 : r ≤ 1114111) (hs : ¬ (55296 ≤ r ∧ r ≤ 57343)) : Calls Tryd.prog 123 #[.string ⟨#[48, 49, 50, 51, 52, 53, 54, 55, 56, 57, 97, 98, 99, 100, 101, 102]⟩, .int .i32 r] w fun x w' => x = .returned (.int .i64 (hexI r)) ∧ Below w.heap.size w w' := by
  unfold hexI
  split
  · rename_i h
    refine (Tryd.strings_IndexRune_ascii _ r w h0 h).mono ?_
    rintro e w' ⟨rfl, rfl⟩
    exact ⟨rfl, Below.refl _ _⟩
  · exact indexRune_high r w (by omega) h1 hs
end Go.Proofs.YtkbopeoaoakfnaaDoor
