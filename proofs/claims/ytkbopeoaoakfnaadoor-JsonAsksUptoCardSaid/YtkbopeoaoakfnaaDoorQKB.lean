/- The texts JK4 of this work, merged by wip/merge.py. No conditions. -/
import Derived.Test.YtkbopeoaoakfnaaDoorQKA
import Derived.Test.YtkbopeoaoakfnaaDoorQWA
import Derived.Test.YtkbopeoaoakfnaaDoorQG
import Derived.Test.YtkbopeoaoakfnaaDoorQR
import Derived.Lib.AppendStr
namespace Go.Proofs.YtkbopeoaoakfnaaDoor
open Go.RowKit
theorem strCells8 (l : List UInt8) : Lib.strCells ⟨l.toArray⟩ = bvs l := by simp [Lib.strCells, bvs, bv]
/-- A string appended to a []byte of the call's own. -/
theorem appS8 {ops : Array Oper} {rest : List Oper} {o : Oper} {a : Act} {w : World} {Q : Exit → Act → World → Prop} {s x : Operand} {base : Nat} {v : Value} {l news : List UInt8}
    (hgd : o.guard = none) (ho : o.op = .call { callee := .builtin .append, args := #[s, x], argTypes := #[64, 9] })
    (hs : a.eval s = v) (hx : a.eval x = .string ⟨news.toArray⟩) (hown : Own8 w base v l) (hbytes : l.length + news.length ≤ 140737488355328) (hbase : base ≤ w.heap.size)
    (h : ∀ v' w', Own8 w' base v' (l ++ news) → w.grownBy w' v.ownBlock → wpList Tryd.prog ops Q rest (a.put o.dst v') w') : wpList Tryd.prog ops Q (o :: rest) a w := by
  obtain ⟨i0, hi0, hz0, hz1, hz2⟩ := info_parts u8info
  have hsz : (⟨news.toArray⟩ : ByteArray).size = news.length := by simp [ByteArray.size]
  refine Lib.wpList_append_own_string w hgd s x _ _ ho base 5 i0 Tryd.underlying64 Tryd.underlying9 hi0 hz0 hz1 hz2 v l.length (bvs l) hs hown ⟨news.toArray⟩ hx (by rw [hsz]; simp only [maxLen]; omega) (by rw [hsz]; omega) hbase ?_
  intro v' w' h1 h2 _
  rw [strCells8, hsz] at h1
  refine h v' w' ?_ h2
  unfold Own8
  rw [List.length_append, bvs_append]
  exact h1
/-- What the reference writes for what stands at the head, and how far it goes. -/
def quoteX (l : List UInt8) : List UInt8 :=
  if (l.getD 0 0) = 34 ∨ (l.getD 0 0) = 92 then [92, l.getD 0 0]
  else if (l.getD 0 0).toNat < 32 then [92, 117, 48, 48, hexC ((l.getD 0 0).toNat / 16), hexC ((l.getD 0 0).toNat % 16)]
  else if runeW l = 0 then Lib.encodeRune 65533 else l.take (runeW l)
theorem quoteX_eq {l : List UInt8} (hne : l ≠ []) : quoteR (Lib.decodeL l).1 = quoteX l ∧ (Lib.decodeL l).2 = max (runeW l) 1 := by
  match l, hne with
  | c :: l, hne =>
    have hg : (c :: l).getD 0 0 = c := rfl
    unfold quoteX
    rw [hg]
    by_cases hlo : c.toNat < 128
    · rw [dl_ascii c l hlo, runeW_ascii c l hlo]
      refine ⟨?_, rfl⟩
      unfold quoteR
      have he : Lib.encodeRune (c.toNat : Int) = [c] := by
        unfold Lib.encodeRune
        rw [Lib.encodeRuneZ_one (by omega) (by omega)]
        simp
      dsimp only
      have h34 : c = 34 ↔ c.toNat = 34 := ⟨fun h => by rw [h]; rfl, fun h => UInt8.toNat_inj.1 h⟩
      have h92 : c = 92 ↔ c.toNat = 92 := ⟨fun h => by rw [h]; rfl, fun h => UInt8.toNat_inj.1 h⟩
      rw [he, if_neg (show ¬ 1 = 0 by decide)]
      by_cases hq : c.toNat = 34 ∨ c.toNat = 92
      · rw [if_pos hq, if_pos (by rw [h34, h92]; exact hq)]
      · rw [if_neg hq, if_neg (show ¬ (c = 34 ∨ c = 92) by rw [h34, h92]; exact hq)]
        by_cases h32 : c.toNat < 32
        · rw [if_pos h32, if_pos h32]
        · rw [if_neg h32, if_neg h32]; rfl
    · have hd := dl_high c l (by omega)
      have n34 : ¬ (c = 34 ∨ c = 92) := by rintro (h | h) <;> (subst h; exact hlo (by decide))
      rw [if_neg n34, if_neg (by omega)]
      have hq : quoteR (Lib.decodeL (c :: l)).1 = Lib.encodeRune ((Lib.decodeL (c :: l)).1 : Int) := by
        unfold quoteR
        rw [if_neg (by omega), if_neg (by omega)]
      rw [hq]
      by_cases hw : runeW (c :: l) = 0
      · rw [if_pos hw, hw]
        unfold runeW at hw
        split at hw
        · rename_i h
          rcases h with h | h
          · exact absurd h hne
          · rw [h.1, h.2]; exact ⟨rfl, rfl⟩
        · have := Lib.decodeL_width (c :: l); omega
      · rw [if_neg hw]
        have h1 : ¬ ((Lib.decodeL (c :: l)).1 = 65533 ∧ (Lib.decodeL (c :: l)).2 = 1) := by
          intro h
          exact hw (by unfold runeW; rw [if_pos (.inr h)])
        have hr : runeW (c :: l) = (Lib.decodeL (c :: l)).2 := by unfold runeW; rw [if_neg (by rintro (h | h); exact hne h; exact h1 h)]
        have h2 := Lib.encode_decode (c :: l) hne h1
        have := Lib.decodeL_width (c :: l)
        exact ⟨by rw [hr]; exact h2, by omega⟩
theorem quoteD_next (l : List UInt8) (hne : l ≠ []) : quoteD l.length l = quoteX l ++ quoteD (l.drop (max (runeW l) 1)).length (l.drop (max (runeW l) 1)) := by
  obtain ⟨h1, h2⟩ := quoteX_eq hne
  rw [quoteD_step l hne, h1, h2]
theorem own8_new (w : World) (l : List UInt8) (cs : Array Value) (hcs : cs.toList = bvs l) (hl : l.length ≤ maxLen) : Own8 (w.alloc (.cells cs 5)) w.heap.size (.slice (some ⟨w.heap.size, 0, none⟩) l.length l.length) l := by
  have hc : cs.size = l.length := by rw [← Array.length_toList, hcs, bvs_length]
  refine ⟨by simp [bvs_length], .inr ⟨w.heap.size, l.length, cs, rfl, Nat.le_refl _, heap_alloc_new w _, Nat.le_refl _, hl, by omega, ?_⟩⟩
  rw [hcs, Nat.mul_one]
  exact List.take_of_length_le (by rw [bvs_length]; omega)
/-- The rounds of Quoted. -/
def QI (w : World) (s : List UInt8) (at_ : Value) (v : Value) (wr : World) : Prop :=
  ∃ (pos : Nat) (acc : List UInt8), pos ≤ s.length ∧ at_ = .int .i64 (pos : Int) ∧ Own8 wr w.heap.size v acc ∧ Below w.heap.size w wr ∧ acc ++ quoteD (s.drop pos).length (s.drop pos) = 34 :: quoteD s.length s
set_option maxRecDepth 100000 in
set_option maxHeartbeats 400000 in
theorem quoted_any (s : List UInt8) (hlen : (quoteB s).length ≤ 140737488000000) (hs : s.length ≤ 140737488000000) (w : World) : Calls Tryd.prog 30 #[.string ⟨s.toArray⟩] w fun e w' => e = .returned (.string ⟨(quoteB s).toArray⟩) ∧ Below w.heap.size w w' := by
  have HQL : Hid ((34 :: quoteD s.length s).length + 1 ≤ 140737488000000) := by show _ ≤ _; unfold quoteB at hlen; simp at hlen ⊢; omega
  have HSL := Lib.hid hs
  obtain ⟨sb, hsb⟩ : ∃ sb : ByteArray, sb = ⟨s.toArray⟩ := ⟨_, rfl⟩
  have hsz : sb.size = s.length := by rw [hsb]; simp [ByteArray.size]
  have HSZ := Lib.hid hsz
  have HSB := Lib.hid hsb
  rw [← hsb]
  clear hlen hs hsz hsb
  go_enter Tryd.func30, Tryd.ntmps30
  go_wp2
  go_loopw [4, 3] (fun i v wr => QI w s i v wr) (fun i v _ => s.length - (intOf i).toNat)
  case atStart =>
    refine ⟨0, [34], Nat.zero_le _, rfl, own8_new w [34] _ (by simp [bvs, bv]) (by simp [maxLen]), (Below.refl _ _).alloc (Nat.le_refl _) _, by simp⟩
  case round =>
    obtain ⟨pos, acc, hps, rfl, hO, hB, hacc⟩ := hrel
    by_cases hp : pos < s.length
    · obtain ⟨l, hl⟩ : ∃ l, l = s.drop pos := ⟨_, rfl⟩
      have hst : StrAt sb pos l := by rw [HSB.out, hl]; exact strAt s pos hp
      have hne : l ≠ [] := by intro e; have := hst.len; have := hst.lt; rw [e] at *; simp at *; omega
      have hstep := quoteD_next l hne
      rw [← hl, hstep, ← List.append_assoc, hl, List.drop_drop, ← hl] at hacc
      have hrl := runeW_le l
      have hll : l.length = s.length - pos := by rw [hl, List.length_drop]
      obtain ⟨A, c, rfl, hAc, hR⟩ := own8_form hO
      have hsum : acc.length + (quoteX l).length + 1 ≤ 140737488000000 := by
        have h1 := congrArg List.length hacc
        have h2 := HQL.out
        simp only [List.length_append, List.length_cons] at h1 h2 ⊢
        omega
      have HR := Lib.hid (rune_any hst (by have := HSL.out; have := HSZ.out; omega))
      have hg := hst.get 0 hst.lt
      rw [Nat.add_zero] at hg
      obtain ⟨ch, hch⟩ : ∃ ch : UInt8, ch = l.getD 0 0 := ⟨_, rfl⟩
      rw [← hch] at hg
      have hpI : (0 : Int) ≤ (pos : Int) := by omega
      have hpl : (pos : Int) < (sb.size : Int) := by have := hst.lt; omega
      have hsl : (sb.size : Int) ≤ 140737488000000 := by have := HSL.out; have := HSZ.out; omega
      have HACC := Lib.hid hacc
      have HSUM := Lib.hid hsum
      have HO := Lib.hid hO
      have HB := Lib.hid hB
      have HLL := Lib.hid (And.intro hll hrl)
      have HP := Lib.hid hp
      have HL := Lib.hid hl
      have hlow : ch.toNat < 128 → runeW l = 1 := by
        intro h
        have h2 : l = ch :: l.drop 1 := by
          match l, hne, hch with
          | a :: l, _, hch => rw [hch]; rfl
        rw [h2]
        exact runeW_ascii ch _ h
      -- the end of a round
      have fin : ∀ (v2 : Value) (w2 : World), Own8 w2 w.heap.size v2 (acc ++ quoteX l) → Below w.heap.size w w2 → ∀ m : Nat, m = max (runeW l) 1 → QI w s (.int .i64 ((pos : Int) + (m : Int))) v2 w2 ∧ s.length - (intOf (.int .i64 ((pos : Int) + (m : Int)))).toNat < s.length - (intOf (.int .i64 (pos : Int))).toNat := by
        intro v2 w2 h1 h2 m hm
        refine ⟨⟨pos + m, acc ++ quoteX l, by omega, by simp, h1, h2, by rw [hm]; exact hacc⟩, by simp [intOf]; omega⟩
      have FIN := Lib.hid fin
      have hlt256 := ch.toNat_lt
      clear hps hacc hst hne hstep hrl hll hO hB hAc hR hsum hl hp fin
      by_cases h34 : ch = 34
      · have q34 : ((ch.toNat : Int) == 34) = true := by rw [h34]; rfl
        have hw := hlow (by rw [h34]; decide)
        have hx : quoteX l = [92, 34] := by unfold quoteX; rw [← hch, if_pos (.inl h34), h34]
        rw [hw] at HR
        have HX := Lib.hid hx
        have HW := Lib.hid hw
        clear hx hw hlow hch
        subst h34
        go_wp2_with (first
          | (go_at_call 54; go_must (refine (HR.out wr).mono ?_; rintro e w1 ⟨rfl, hw1⟩; have hw1 := hw1.symm; subst hw1))
          | (at_builtin; go_must (refine app8 (l := acc) (news := [92, 34]) (base := w.heap.size) (B := wr.heap.size + 1) rfl rfl rfl rfl (HO.out.alloc _) (reads_new wr _ _ 2 rfl) (by have h_ := HSUM.out; rw [HX.out] at h_; simp at h_; omega) (by have h_ := HB.out.size; simp; omega) ?_; intro v2 w2 ho hg2 hx2)))
        go_roundw
        case rel => exact (FIN.out v2 w2 (by rw [HX.out]; exact ho) (below_own8 (HB.out.alloc HB.out.size _) (HO.out.alloc _) hg2) 1 (by rw [HW.out]; rfl)).1
        case measure => exact (FIN.out v2 w2 (by rw [HX.out]; exact ho) (below_own8 (HB.out.alloc HB.out.size _) (HO.out.alloc _) hg2) 1 (by rw [HW.out]; rfl)).2
      by_cases h92 : ch = 92
      · have q34 : ((ch.toNat : Int) == 34) = false := by rw [h92]; rfl
        have q92 : ((ch.toNat : Int) == 92) = true := by rw [h92]; rfl
        have hw := hlow (by rw [h92]; decide)
        have hx : quoteX l = [92, 92] := by unfold quoteX; rw [← hch, if_pos (.inr h92), h92]
        rw [hw] at HR
        have HX := Lib.hid hx
        have HW := Lib.hid hw
        clear hx hw hlow hch h34
        subst h92
        go_wp2_with (first
          | (go_at_call 54; go_must (refine (HR.out wr).mono ?_; rintro e w1 ⟨rfl, hw1⟩; have hw1 := hw1.symm; subst hw1))
          | (at_builtin; go_must (refine app8 (l := acc) (news := [92, 92]) (base := w.heap.size) (B := wr.heap.size + 1) rfl rfl rfl rfl (HO.out.alloc _) (reads_new wr _ _ 2 rfl) (by have h_ := HSUM.out; rw [HX.out] at h_; simp at h_; omega) (by have h_ := HB.out.size; simp; omega) ?_; intro v2 w2 ho hg2 hx2)))
        go_roundw
        case rel => exact (FIN.out v2 w2 (by rw [HX.out]; exact ho) (below_own8 (HB.out.alloc HB.out.size _) (HO.out.alloc _) hg2) 1 (by rw [HW.out]; rfl)).1
        case measure => exact (FIN.out v2 w2 (by rw [HX.out]; exact ho) (below_own8 (HB.out.alloc HB.out.size _) (HO.out.alloc _) hg2) 1 (by rw [HW.out]; rfl)).2
      have n34 : ch.toNat ≠ 34 := fun h => h34 (UInt8.toNat_inj.1 h)
      have n92 : ch.toNat ≠ 92 := fun h => h92 (UInt8.toNat_inj.1 h)
      have q34 : ((ch.toNat : Int) == 34) = false := by simp; omega
      have q92 : ((ch.toNat : Int) == 92) = false := by simp; omega
      clear n34 n92
      by_cases h32 : ch.toNat < 32
      · have d32 : decide ((ch.toNat : Int) < 32) = true := by simp; omega
        have hw := hlow (by omega)
        have hx : quoteX l = [92, 117, 48, 48] ++ [hexC (ch.toNat / 16), hexC (ch.toNat % 16)] := by unfold quoteX; rw [← hch, if_neg (by rintro (h | h); exact h34 h; exact h92 h), if_pos h32]; rfl
        rw [hw] at HR
        have HX := Lib.hid hx
        have HW := Lib.hid hw
        obtain ⟨acc2, hacc2⟩ : ∃ a2, a2 = acc ++ [92, 117, 48, 48] := ⟨_, rfl⟩
        have HA2 := Lib.hid hacc2
        have HAL := Lib.hid (show acc2.length + 2 ≤ 140737488000000 by have h_ := HSUM.out; rw [HX.out] at h_; rw [hacc2]; simp at h_ ⊢; omega)
        clear hacc2
        have hx1 := hexC_get (n := ch.toNat / 16) (by omega)
        have hx2 := hexC_get (n := ch.toNat % 16) (by omega)
        have hc0 : (0 : Int) ≤ (ch.toNat : Int) := by omega
        have hc9 : (ch.toNat : Int) < 32 := by omega
        have he0 : (0 : Int) ≤ (ch.toNat : Int) / 16 := by omega
        have he1 : (ch.toNat : Int) / 16 < 16 := by omega
        have hf0 : (0 : Int) ≤ (ch.toNat : Int) % 16 := by omega
        have hf1 : (ch.toNat : Int) % 16 < 16 := by omega
        clear hx hw hlow hch h34 h92 h32
        go_wp2_with (first
          | (go_at_call 54; go_must (refine (HR.out wr).mono ?_; rintro e w1 ⟨rfl, hw1⟩; have hw1 := hw1.symm; subst hw1))
          | (at_builtin; go_must (refine appS8 (l := acc) (news := [92, 117, 48, 48]) (base := w.heap.size) rfl rfl rfl rfl HO.out (by have h_ := HSUM.out; rw [HX.out] at h_; simp at h_ ⊢; omega) HB.out.size ?_; intro v2 w2 ho hg2; rw [← HA2.out] at ho; obtain ⟨A2, c2, hv2, _, _⟩ := own8_form ho; subst hv2)))
        have B2 := Lib.hid (below_own8 HB.out HO.out hg2)
        have O2 := Lib.hid ho
        clear ho hg2
        refine AnyCZ.start [9] (fun _ => True) (by kernel_rfl) rfl ?_
        intro w3 hb3
        have O3 := Lib.hid (own8_below O2.out hb3)
        have B3 := Lib.hid (B2.out.trans (hb3.mono B2.out.size))
        clear hb3
        apply AnyCZ.take (i := 0) rfl (by kernel_rfl) (by kernel_rfl) rfl
        · intro w' hC K hK
          go_wp2
          exact hK
        · rfl
        apply AnyCZ.take (i := 1) rfl (by kernel_rfl) (by kernel_rfl) rfl
        · intro w' hC K hK
          go_wp2
          exact hK
        · rfl
        apply AnyCZ.take (i := 2) rfl (by kernel_rfl) (by kernel_rfl) rfl
        · intro w' hC K hK
          go_wp2
          exact hK
        · rfl
        apply AnyCZ.take (i := 3) rfl (by kernel_rfl) (by kernel_rfl) rfl
        · intro w' hC K hK
          go_wp2
          exact hK
        · rfl
        apply AnyCZ.take (i := 4) rfl (by kernel_rfl) (by kernel_rfl) rfl
        · intro w' hC K hK
          go_wp2
          exact hK
        · rfl
        apply AnyCZ.take (i := 5) rfl (by kernel_rfl) (by kernel_rfl) rfl
        · intro w' hC K hK
          go_wp2
          exact hK
        · rfl
        apply AnyCZ.take (i := 6) rfl (by kernel_rfl) (by kernel_rfl) rfl
        · intro w' hC K hK
          go_wp2
          exact hK
        · rfl
        apply AnyCZ.solo (i := 7) rfl (by kernel_rfl) trivial
        go_wp2
        refine ⟨rfl, ?_⟩
        apply AnyCZ.solo (i := 8) rfl (by kernel_rfl) trivial
        refine app8 (l := acc2) (news := [hexC (ch.toNat / 16), hexC (ch.toNat % 16)]) (base := w.heap.size) (B := w3.heap.size + 1) rfl rfl rfl rfl (O3.out.alloc _) (reads_new w3 _ _ 2 rfl) (by have h_ := HAL.out; omega) (by have h_ := B3.out.size; simp; omega) ?_
        intro v4 w4 ho hg4 hx4
        go_wp2
        refine ⟨rfl, ?_⟩
        apply AnyCZ.soloW (i := 9) rfl (by kernel_rfl) trivial
        go_wp2
        refine ⟨rfl, ?_⟩
        refine AnyW.done (by kernel_rfl) ?_
        go_wp2
        go_roundw
        case rel => exact (FIN.out v4 w4 (by rw [HX.out, ← List.append_assoc, ← HA2.out]; exact ho) (below_own8 (B3.out.alloc B3.out.size _) (O3.out.alloc _) hg4) 1 (by rw [HW.out]; rfl)).1
        case measure => exact (FIN.out v4 w4 (by rw [HX.out, ← List.append_assoc, ← HA2.out]; exact ho) (below_own8 (B3.out.alloc B3.out.size _) (O3.out.alloc _) hg4) 1 (by rw [HW.out]; rfl)).2
      have d32 : decide ((ch.toNat : Int) < 32) = false := by simp; omega
      by_cases hz : runeW l = 0
      · have hx : quoteX l = Lib.encodeRune 65533 := by unfold quoteX; rw [← hch, if_neg (by rintro (h | h); exact h34 h; exact h92 h), if_neg h32, if_pos hz]
        rw [hz] at HR
        have HX := Lib.hid hx
        have HW := Lib.hid hz
        clear hx hz hlow hch h34 h92 h32
        go_wp2_with (first
          | (go_at_call 54; go_must (refine (HR.out wr).mono ?_; rintro e w1 ⟨rfl, hw1⟩; have hw1 := hw1.symm; subst hw1))
          | (go_at_call 55; go_must (refine (utf8_any 65533 (by decide) (by decide) wr).mono ?_; rintro e w1 ⟨rfl, hb1⟩))
          | (at_builtin; go_must (refine appS8 (l := acc) (news := Lib.encodeRune 65533) (base := w.heap.size) rfl rfl rfl rfl (own8_below HO.out hb1) (by have h_ := HSUM.out; rw [HX.out] at h_; omega) (by have h_ := HB.out.size; have h2_ := hb1.size; omega) ?_; intro v2 w2 ho hg2)))
        go_roundw
        case rel => exact (FIN.out v2 w2 (by rw [HX.out]; exact ho) (below_own8 (HB.out.trans (hb1.mono HB.out.size)) (own8_below HO.out hb1) hg2) 1 (by rw [HW.out]; rfl)).1
        case measure => exact (FIN.out v2 w2 (by rw [HX.out]; exact ho) (below_own8 (HB.out.trans (hb1.mono HB.out.size)) (own8_below HO.out hb1) hg2) 1 (by rw [HW.out]; rfl)).2
      · obtain ⟨n, hn⟩ : ∃ n, n = runeW l := ⟨_, rfl⟩
        have hx : quoteX l = l.take n := by unfold quoteX; rw [← hch, if_neg (by rintro (h | h); exact h34 h; exact h92 h), if_neg h32, if_neg hz, hn]
        rw [← hn] at HR hz
        have HX := Lib.hid hx
        have HW := Lib.hid (show n = max (runeW l) 1 by omega)
        have HMX := Lib.hid (show max (n : Int) 1 = (n : Int) by omega)
        have qz : ((n : Int) == 0) = false := by simp; omega
        have hn1 : (1 : Int) ≤ (n : Int) := by omega
        have hnl : (pos : Int) + (n : Int) ≤ (sb.size : Int) := by have h1_ := HLL.out; have h2_ := HSZ.out; have h3_ := HP.out; omega
        have hxs : sb.extract pos (pos + n) = ⟨(l.take n).toArray⟩ := by rw [HSB.out, extract_mid, Nat.add_sub_cancel_left, HL.out]
        have hsf := fun w => slice_fact sb pos (pos + n) (by omega) (by omega) (pos : Int) ((pos : Int) + (n : Int)) rfl (by simp) w
        rw [hxs] at hsf
        have HLN := Lib.hid (show (l.take n).length ≤ n by rw [List.length_take]; omega)
        clear hx hz hn hlow hch h34 h92 h32 hxs
        go_wp2_with (first
          | (go_at_call 54; go_must (refine (HR.out wr).mono ?_; rintro e w1 ⟨rfl, hw1⟩; have hw1 := hw1.symm; subst hw1))
          | (at_builtin; go_loud (refine appS8 (l := acc) (news := l.take n) (base := w.heap.size) rfl rfl rfl rfl HO.out (by have h_ := HSUM.out; rw [HX.out] at h_; omega) HB.out.size ?_; intro v2 w2 ho hg2)))
        go_roundw
        case rel => rw [HMX.out]; exact (FIN.out v2 w2 (by rw [HX.out]; exact ho) (below_own8 HB.out HO.out hg2) n HW.out).1
        case measure => rw [HMX.out]; exact (FIN.out v2 w2 (by rw [HX.out]; exact ho) (below_own8 HB.out HO.out hg2) n HW.out).2
    · obtain rfl : pos = s.length := by omega
      rw [List.drop_length] at hacc
      have hq0 : quoteD ([] : List UInt8).length [] = [] := rfl
      rw [hq0, List.append_nil] at hacc
      obtain ⟨fin, hfin⟩ : ∃ fin, fin = acc ++ [34] := ⟨_, rfl⟩
      have HFIN := Lib.hid hfin
      have HQ : Hid (fin = quoteB s) := by show _ = _; rw [hfin, hacc]; rfl
      have HAL := Lib.hid (show acc.length + 1 ≤ 140737488000000 by rw [hacc]; exact HQL.out)
      obtain ⟨A, c, rfl, hAc, hR⟩ := own8_form hO
      have HO := Lib.hid hO
      have HB := Lib.hid hB
      have hsl : (sb.size : Int) ≤ (s.length : Int) := by have := HSZ.out; omega
      clear hq0 hO hB hAc hR hp hps hacc hfin
      go_wp2_with (at_builtin; go_must (refine app8 (l := acc) (news := [34]) (base := w.heap.size) (B := wr.heap.size + 1) rfl rfl rfl rfl (HO.out.alloc _) (reads_new wr _ _ 1 rfl) (by have h_ := HAL.out; omega) (by have h_ := HB.out.size; simp; omega) ?_; intro v2 w2 ho hg2 hx2; rw [← HFIN.out] at ho; have HG := Lib.hid hg2; have HO2 := Lib.hid ho; obtain ⟨A2, c2, hv2, _, hR2⟩ := own8_form ho; subst hv2; have rs := run_str8 hR2 c2; clear ho hg2 hR2 hx2))
      go_ret
      exact ⟨by rw [HQ.out]; rfl, below_own8 (HB.out.alloc HB.out.size _) (HO.out.alloc _) HG.out⟩
end Go.Proofs.YtkbopeoaoakfnaaDoor
