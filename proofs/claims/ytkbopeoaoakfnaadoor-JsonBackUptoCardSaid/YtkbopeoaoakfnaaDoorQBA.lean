/- The texts RB1 RB2 of this work, merged by wip/merge.py. No conditions. -/
import Derived.Test.YtkbopeoaoakfnaaDoorQRJ
import Derived.Test.YtkbopeoaoakfnaaDoorQTF
import Derived.Test.YtkbopeoaoakfnaaDoorQTE
namespace Go.Proofs.YtkbopeoaoakfnaaDoor
open Go.RowKit
theorem valid_take {c : UInt8} {t : List UInt8} (hw : runeW (c :: t) ≠ 0) : ValidU ((c :: t).take (runeW (c :: t))) := by
  rcases Nat.lt_or_ge c.toNat 128 with h | h
  · rw [runeW_ascii c t h]
    exact valid_ascii c h
  · rw [take_rune (fun e => by rw [e] at h; exact absurd h (by decide)) (fun e => by rw [e] at h; exact absurd h (by decide)) (by omega) hw]
    exact .one (decL_valid _)
/-- A call that answers a truth; if it is true, P holds. -/
def SaysB (w : World) (P : Prop) (e : Ending) (w' : World) : Prop := ∃ b : Bool, e = .returned (.bool b) ∧ Below w.heap.size w w' ∧ (b = true → P)
theorem SaysB.no {w w' : World} {P : Prop} (h : Below w.heap.size w w') : SaysB w P (.returned (.bool false)) w' := ⟨false, rfl, h, fun e => by cases e⟩
theorem SaysB.yes {w w' : World} {P : Prop} (h : Below w.heap.size w w') (hp : P) : SaysB w P (.returned (.bool true)) w' := ⟨true, rfl, h, fun _ => hp⟩
set_option maxRecDepth 100000 in
set_option maxHeartbeats 400000 in
theorem ltext_any (sb : ByteArray) (s : List UInt8) (hs : sb = ⟨s.toArray⟩) (hl : s.length ≤ 1048576) (w : World) : Calls Tryd.prog 42 #[.string sb] w (SaysB w (ValidU s)) := by
  have HSZ : Hid (sb.size = s.length) := by show _ = _; rw [hs]; simp [ByteArray.size]
  have HS := Lib.hid hs
  have HL := Lib.hid hl
  have hs9 : (sb.size : Int) ≤ 1048576 := by have := HSZ.out; omega
  clear hs hl
  go_enter Tryd.func42, Tryd.ntmps42
  go_wp2
  go_loopw [3] (fun iv wr => ∃ i : Nat, i ≤ s.length ∧ iv = .int .i64 (i : Int) ∧ wr = w ∧ ValidU (s.take i)) (fun iv _ => s.length - (intOf iv).toNat)
  case atStart => exact ⟨0, Nat.zero_le _, rfl, rfl, .nil⟩
  case round =>
    obtain ⟨i, hi, rfl, hwr, hv⟩ := hrel
    subst hwr
    have HV := Lib.hid hv
    by_cases hlt : i < s.length
    · have hst : StrAt sb i (s.drop i) := by rw [HS.out]; exact strAt s i hlt
      have HRU := Lib.hid (rune_any hst (by have := HSZ.out; have := HL.out; omega))
      have hrl := runeW_le (s.drop i)
      rw [List.length_drop] at hrl
      obtain ⟨n, hn⟩ : ∃ n, n = runeW (s.drop i) := ⟨_, rfl⟩
      rw [← hn] at HRU hrl
      have HN := Lib.hid hn
      have hiI : (i : Int) < (sb.size : Int) := by have := HSZ.out; omega
      have hi0 : (0 : Int) ≤ (i : Int) := by omega
      have hd : decide (i < sb.size) = true := by have := HSZ.out; simp; omega
      by_cases hz : n = 0
      · subst hz
        clear hi hst hrl hn hlt hv
        go_wp2_with (go_at_call 54; go_must (refine (HRU.out _).mono ?_; rintro e w1 ⟨rfl, hw1⟩; have hw1 := hw1.symm; subst hw1))
        go_ret
        exact SaysB.no (Below.refl _ _)
      · have qz : ((n : Int) == 0) = false := by simp; omega
        have hn0 : (0 : Int) ≤ (n : Int) := by omega
        have hn9 : (i : Int) + (n : Int) ≤ 1048576 := by have := HSZ.out; omega
        have HZ := Lib.hid (And.intro (show n ≠ 0 from hz) (show i + n ≤ s.length by omega))
        have HLT := Lib.hid hlt
        clear hi hst hrl hn hz hlt hv
        go_wp2_with (go_at_call 54; go_must (refine (HRU.out _).mono ?_; rintro e w1 ⟨rfl, hw1⟩; have hw1 := hw1.symm; subst hw1))
        go_roundw
        case rel =>
          refine ⟨i + n, HZ.out.2, by simp, (by first | rfl | trivial), ?_⟩
          rw [List.take_add]
          refine HV.out.append ?_
          have h1 := HZ.out.1
          rw [HN.out] at h1 ⊢
          rw [List.drop_eq_getElem_cons HLT.out] at h1 ⊢
          exact valid_take h1
        case measure => have := HZ.out; simp [intOf]; omega
    · obtain rfl : i = s.length := by omega
      have hd : decide (s.length < sb.size) = false := by have := HSZ.out; simp; omega
      have hiI : (sb.size : Int) ≤ (s.length : Int) := by have := HSZ.out; omega
      clear hi hlt hv
      go_wp2
      go_ret
      exact SaysB.yes (Below.refl _ _) (by have h_ := HV.out; rwa [List.take_length] at h_)
end Go.Proofs.YtkbopeoaoakfnaaDoor

namespace Go.Proofs.YtkbopeoaoakfnaaDoor
open Go.RowKit
mutual
/-- A tree of a well-made value, but for how deep it is. -/
def MADE : TR → Prop
  | .mk k _ s ks ps => 0 ≤ k ∧ k ≤ 5 ∧ (k = 3 → ValidU s) ∧ (k = 2 → NumL s) ∧ (k = 4 ∨ k = 5 → MADEL ps) ∧ (k = 5 → ∀ i, i < ps.length → i < ks.length ∧ ValidU (ks.getD i []) ∧ ∀ j, j < i → ks.getD j [] ≠ ks.getD i [])
def MADEL : List TR → Prop
  | [] => True
  | t :: l => MADE t ∧ MADEL l
end
theorem MADEL_of : ∀ (l : List TR), (∀ x ∈ l, MADE x) → MADEL l
  | [], _ => by simp [MADEL]
  | t :: l, h => by
    rw [MADEL]
    exact ⟨h t List.mem_cons_self, MADEL_of l (fun x hx => h x (List.mem_cons_of_mem _ hx))⟩
theorem IsT.inv {w : World} {F : Nat → Prop} {k : Int} {b : Bool} {x : List UInt8} {a c : Value} {t : TR} (h : IsT w F [.int .i64 k, .bool b, .string ⟨x.toArray⟩, a, c] t) : ∃ ks ps, t = .mk k b x ks ps := by
  generalize hl : ([.int .i64 k, .bool b, .string ⟨x.toArray⟩, a, c] : List Value) = us at h
  cases h with
  | mk k' b' s' Ak ck ks Ap cp uss ps =>
    simp only [List.cons.injEq, Value.int.injEq, Value.bool.injEq, Value.string.injEq, ByteArray.mk.injEq, true_and] at hl
    obtain ⟨h1, h2, h3, _⟩ := hl
    have h4 : x = s' := by simpa using h3
    subst h1 h2 h4
    exact ⟨ks, ps, rfl⟩
theorem jt_num {J : JV} {b : Bool} {s : List UInt8} {ks : List (List UInt8)} {ps : List TR} (h : jt J = .mk 2 b s ks ps) : J = .num s := by
  cases J <;> simp [jt] at h
  obtain ⟨_, h, _⟩ := h
  rw [h]
/-- What made does. -/
def MD (t : TR) : Prop := ∀ (w : World) (F : Nat → Prop) (us : List Value), IsT w F us t → (∀ k, F k → k < w.heap.size) → bulkT t ≤ 1048576 → Calls Tryd.prog 20 #[.agg us.toArray] w (SaysB w (MADE t))
section
variable {w : World} {F : Nat → Prop}
set_option maxRecDepth 100000 in
set_option maxHeartbeats 400000 in
theorem made_out {k : Int} {b : Bool} {sb : ByteArray} {Ak Ap : Option Addr} {nk ck np cp : Nat} {P : Prop} (hk : k < 0 ∨ 5 < k) : Calls Tryd.prog 20 #[.agg #[.int .i64 k, .bool b, .string sb, .slice Ak nk ck, .slice Ap np cp]] w (SaysB w P) := by
  have HBX : Hid (∀ o, Below w.heap.size w (w.alloc o)) := fun o => (Below.refl _ _).alloc (Nat.le_refl _) _
  by_cases h0 : k < 0
  · clear hk
    go_enter Tryd.func20, Tryd.ntmps20
    go_wp2
    go_ret
    exact SaysB.no (HBX.out _)
  · have d0 : decide (k < 0) = false := by simp; omega
    have h5 : 5 < k := by omega
    clear hk h0
    go_enter Tryd.func20, Tryd.ntmps20
    go_wp2
    go_ret
    exact SaysB.no (HBX.out _)
set_option maxRecDepth 100000 in
set_option maxHeartbeats 400000 in
theorem made_leaf {k : Int} {b : Bool} {s : List UInt8} {Ak Ap : Option Addr} {nk ck np cp : Nat} {ks : List (List UInt8)} {ps : List TR} (hk : k = 0 ∨ k = 1) : Calls Tryd.prog 20 #[.agg #[.int .i64 k, .bool b, .string ⟨s.toArray⟩, .slice Ak nk ck, .slice Ap np cp]] w (SaysB w (MADE (.mk k b s ks ps))) := by
  have HBX : Hid (∀ o, Below w.heap.size w (w.alloc o)) := fun o => (Below.refl _ _).alloc (Nat.le_refl _) _
  have HM : Hid (MADE (.mk k b s ks ps)) := by
    show MADE _
    rw [MADE]
    refine ⟨by omega, by omega, fun h => by omega, fun h => by omega, fun h => by omega, fun h => by omega⟩
  obtain ⟨sb, hsb⟩ : ∃ sb : ByteArray, sb = ⟨s.toArray⟩ := ⟨_, rfl⟩
  rw [← hsb]
  clear hsb
  rcases hk with rfl | rfl
  · go_enter Tryd.func20, Tryd.ntmps20
    go_wp2
    go_ret
    exact SaysB.yes (HBX.out _) HM.out
  · go_enter Tryd.func20, Tryd.ntmps20
    go_wp2
    go_ret
    exact SaysB.yes (HBX.out _) HM.out
set_option maxRecDepth 100000 in
set_option maxHeartbeats 400000 in
theorem made_text {b : Bool} {s : List UInt8} {Ak Ap : Option Addr} {nk ck np cp : Nat} {ks : List (List UInt8)} {ps : List TR} (hl : s.length ≤ 1048576) : Calls Tryd.prog 20 #[.agg #[.int .i64 3, .bool b, .string ⟨s.toArray⟩, .slice Ak nk ck, .slice Ap np cp]] w (SaysB w (MADE (.mk 3 b s ks ps))) := by
  have HBX : Hid (∀ o, Below w.heap.size w (w.alloc o)) := fun o => (Below.refl _ _).alloc (Nat.le_refl _) _
  have HM : Hid (ValidU s → MADE (.mk 3 b s ks ps)) := by
    intro hv
    rw [MADE]
    refine ⟨by omega, by omega, fun h => hv, fun h => by omega, fun h => by omega, fun h => by omega⟩
  obtain ⟨sb, hsb⟩ : ∃ sb : ByteArray, sb = ⟨s.toArray⟩ := ⟨_, rfl⟩
  have HT := Lib.hid (fun w => ltext_any sb s hsb hl w)
  rw [← hsb]
  clear hsb hl
  go_enter Tryd.func20, Tryd.ntmps20
  go_upto_if 26 with (go_at_call 42; go_must (refine (HT.out _).mono ?_; rintro e w1 ⟨bt, rfl, hb1, hp1⟩; have B1 := Lib.hid hb1; have HP1 := Lib.hid hp1; clear hb1 hp1))
  have HB : Hid (Below w.heap.size w w1) := (HBX.out _).trans (B1.out.mono (HBX.out _).size)
  cases bt with
  | false =>
    go_wp2
    go_ret
    exact SaysB.no HB.out
  | true =>
    have q0 := B1.out.block w.heap.size (by simp)
    rw [heap_alloc_new] at q0
    obtain ⟨z0, z1, z2, z3, z4, zf⟩ := row5 q0
    clear q0
    go_wp2
    go_ret
    exact SaysB.yes HB.out (HM.out (HP1.out (by first | rfl | trivial)))
set_option maxRecDepth 100000 in
set_option maxHeartbeats 800000 in
theorem made_num {b : Bool} {s : List UInt8} {Ak Ap : Option Addr} {nk ck np cp : Nat} {ks : List (List UInt8)} {ps : List TR} : Calls Tryd.prog 20 #[.agg #[.int .i64 2, .bool b, .string ⟨s.toArray⟩, .slice Ak nk ck, .slice Ap np cp]] w (SaysB w (MADE (.mk 2 b s ks ps))) := by
  have HBX : Hid (∀ o, Below w.heap.size w (w.alloc o)) := fun o => (Below.refl _ _).alloc (Nat.le_refl _) _
  have HM : Hid (NumL s → MADE (.mk 2 b s ks ps)) := by
    intro hv
    rw [MADE]
    refine ⟨by omega, by omega, fun h => by omega, fun h => hv, fun h => by omega, fun h => by omega⟩
  obtain ⟨sb, hsb⟩ : ∃ sb : ByteArray, sb = ⟨s.toArray⟩ := ⟨_, rfl⟩
  have HRP : Hid (∀ w, Calls Tryd.prog 18 #[.string sb] w (RParsePost w s)) := by
    intro w
    rw [hsb]
    exact rparse_any w s
  have HSB := Lib.hid hsb
  rw [← hsb]
  clear hsb
  obtain ⟨E, hE⟩ : ∃ E : Int, E = (parseP s).2.2 := ⟨_, rfl⟩
  obtain ⟨K, hK⟩ : ∃ K : Int, K = (parseP s).2.1 := ⟨_, rfl⟩
  have HEK := Lib.hid (And.intro hE hK)
  clear hE hK
  go_enter Tryd.func20, Tryd.ntmps20
  go_upto_region 5 with (go_at_call 18; go_must (refine (HRP.out _).mono ?_; rintro e w2 ⟨us, tt, rfl, hb2, hT2, ht2⟩; rw [← HEK.out.1, ← HEK.out.2]; obtain ⟨kx, bx, sx, Ax, nx, cx, Ay, ny, cy, rfl⟩ := hT2.form; have B2 := Lib.hid hb2; have HT2 := Lib.hid (IsT.inv hT2); have HTT := Lib.hid ht2; clear hb2 hT2 ht2; obtain ⟨XB, hXB⟩ : ∃ XB : ByteArray, XB = ⟨sx.toArray⟩ := ⟨_, rfl⟩; have HXB := Lib.hid hXB; rw [← hXB]; clear hXB))
  obtain ⟨w3, hw3⟩ : ∃ w3, w3 = w2.alloc (.cells #[.int .i64 kx, .bool bx, .string XB, .slice Ax nx cx, .slice Ay ny cy] 35) := ⟨_, rfl⟩
  have hb3 : Below w2.heap.size w2 w3 := by rw [hw3]; exact (Below.refl _ _).alloc (Nat.le_refl _) _
  have hx3 : w3.heap[w2.heap.size]? = some (.cells #[.int .i64 kx, .bool bx, .string XB, .slice Ax nx cx, .slice Ay ny cy] 35 (0, 0)) := by rw [hw3]; exact heap_alloc_new _ _
  rw [← hw3]
  have q0 := B2.out.block w.heap.size (by simp)
  rw [heap_alloc_new] at q0
  have q1 := heap_below q0 hb3
  have HB : Hid (Below w.heap.size w w3) := ((HBX.out _).trans (B2.out.mono (HBX.out _).size)).trans (hb3.mono (Nat.le_trans (HBX.out _).size B2.out.size))
  obtain ⟨z0, z1, z2, z3, z4, zf⟩ := row5 q1
  obtain ⟨y0, y1, y2, y3, y4, yf⟩ := row5 hx3
  clear q0 q1 hx3 hb3 hw3
  by_cases hE : E = 0
  · have qE : ((E : Int) != 0) = false := by rw [hE]; rfl
    by_cases hk : kx = 2
    · have qk : ((kx : Int) != 2) = false := by rw [hk]; rfl
      by_cases hs : sx = s
      · have hX : XB = sb := by rw [HXB.out, HSB.out, hs]
        subst hX
        have HN : Hid (NumL s) := by
          obtain ⟨ks', ps', ht⟩ := HT2.out
          have h1 := HTT.out (by rw [← HEK.out.1]; exact hE)
          rw [h1] at ht
          have h2 := jt_num (show jt (parseP s).1 = .mk 2 bx s ks' ps' by rw [ht, hk, hs])
          rcases parseP_cases s with ⟨_, _, hp, hbf, _⟩ | ⟨he, _⟩
          · have h3 := parseP_goodJ hbf
            rw [hp] at h2
            have h4 : (bodyP s).1 = .num s := h2
            rw [h4, goodJ] at h3
            exact h3
          · have := HEK.out.1
            rw [hE] at this
            omega
        have teq : (XB.toList != XB.toList) = false := by simp
        clear hE hk hs
        go_wp2
        go_ret
        exact SaysB.yes HB.out (HM.out HN.out)
      · have tne0 : (XB.toList == sb.toList) = false := by
          rw [HXB.out, HSB.out]
          exact ba_ne hs
        have tne : (!(XB.toList == sb.toList)) = true := by rw [tne0]; rfl
        clear hE hk hs
        go_wp2
        go_ret
        exact SaysB.no HB.out
    · have qk : ((kx : Int) != 2) = true := by simpa using hk
      clear hE hk
      go_wp2
      go_ret
      exact SaysB.no HB.out
  · have qE : ((E : Int) != 0) = true := by simpa using hE
    clear hE
    go_wp2
    go_ret
    exact SaysB.no HB.out
set_option maxRecDepth 100000 in
set_option maxHeartbeats 1000000 in
theorem made_list {b : Bool} {s : List UInt8} {Ak Ap : Option Addr} {nk ck cp : Nat} {ks : List (List UInt8)} {uss : List (List Value)} {ps : List TR} (ih : ∀ t ∈ ps, MD t) (hbk : ∀ t ∈ ps, bulkT t ≤ 1048576) (hps : ps.length ≤ 1048576) (hu : uss.length = ps.length) (hrp : Rd w F Ap uss.flatten)
    (he : ∀ (i : Nat) (us : List Value) (t : TR), uss[i]? = some us → ps[i]? = some t → IsT w F us t) (hF : ∀ k, F k → k < w.heap.size) :
    Calls Tryd.prog 20 #[.agg #[.int .i64 4, .bool b, .string ⟨s.toArray⟩, .slice Ak nk ck, .slice Ap ps.length cp]] w (SaysB w (MADE (.mk 4 b s ks ps))) := by
  have HM : Hid (MADEL ps → MADE (.mk 4 b s ks ps)) := by
    intro hv
    rw [MADE]
    refine ⟨by omega, by omega, fun h => by omega, fun h => by omega, fun h => hv, fun h => by omega⟩
  obtain ⟨sb, hsb⟩ : ∃ sb : ByteArray, sb = ⟨s.toArray⟩ := ⟨_, rfl⟩
  rw [← hsb]
  clear hsb
  obtain ⟨n, hn⟩ : ∃ n, n = ps.length := ⟨_, rfl⟩
  rw [← hn]
  obtain ⟨B, hBe⟩ : ∃ B, B = w.heap.size := ⟨_, rfl⟩
  obtain ⟨w3, hw3⟩ : ∃ w3, w3 = w.alloc (.cells #[.int .i64 4, .bool b, .string sb, .slice Ak nk ck, .slice Ap n cp] 25) := ⟨_, rfl⟩
  have H3 : Hid (Below B w w3 ∧ w3.heap[B]? = some (.cells #[.int .i64 4, .bool b, .string sb, .slice Ak nk ck, .slice Ap n cp] 25 (0, 0)) ∧ w3.heap.size = B + 1) := by
    show _ ∧ _
    rw [hw3, hBe]
    exact ⟨(Below.refl _ _).alloc (Nat.le_refl _) _, heap_alloc_new _ _, by simp⟩
  have HBe := Lib.hid hBe
  have HN := Lib.hid hn
  have IH := Lib.hid ih
  have HBK := Lib.hid hbk
  have HU := Lib.hid hu
  have HRP := Lib.hid hrp
  have HE := Lib.hid he
  have HF := Lib.hid hF
  have HPS := Lib.hid hps
  have ROW : Hid (∀ wr, Below (B + 1) w3 wr → wr.heap[B]? = some (.cells #[.int .i64 4, .bool b, .string sb, .slice Ak nk ck, .slice Ap n cp] 25 (0, 0))) := fun wr hb => (hb.block B (by have := H3.out.2.2; omega)).trans H3.out.2.1
  have OLD : Hid (∀ wr, Below (B + 1) w3 wr → ∀ q, q < B → wr.heap[q]? = w.heap[q]?) := fun wr hb q hq => (hb.block q (by omega)).trans (H3.out.1.block q hq)
  clear ih hbk hu hrp he hF hps hn
  go_enter Tryd.func20, Tryd.ntmps20
  go_wp2
  rw [← hw3, ← hBe]
  clear hw3 hBe
  go_loopw [62] (fun iv wr => ∃ i : Nat, i ≤ n ∧ iv = .int .i64 (i : Int) ∧ Below (B + 1) w3 wr ∧ Hid (∀ x ∈ ps.take i, MADE x)) (fun iv _ => n - (intOf iv).toNat)
  case atStart => exact ⟨0, Nat.zero_le _, rfl, Below.refl _ _, fun x h => by cases h⟩
  case round =>
    obtain ⟨i, hi, rfl, hB, HMI⟩ := hrel
    by_cases hlt : i < n
    · obtain ⟨t, ht⟩ : ∃ t, ps[i]? = some t := ⟨_, List.getElem?_eq_getElem (by rw [← HN.out]; exact hlt)⟩
      obtain ⟨us, b1, off1, rfl, hb1, hus, hist, h5, hcs⟩ := HRP.out.row HU.out HE.out ht
      have hrow : wr.rangeAt b1 (off1 + i * 5) us.toArray.toList := by
        intro k x hx
        have hx' : us[k]? = some x := hx
        rw [World.cell?_of_block (w := w) (a := ⟨b1, off1 + i * 5 + k, none⟩) (OLD.out wr hB b1 (by rw [HBe.out]; exact HF.out b1 hb1))]
        exact hcs k x hx'
      have hz5 : (Tryd.prog.info? 25).map (·.size) = some us.toArray.size := by
        have : us.toArray.size = 5 := by simpa using h5
        rw [this]
        exact lawtree5
      obtain ⟨c0, c1, c2, c3, c4, cf⟩ := row5 (ROW.out wr hB)
      have hiI : (i : Int) < (n : Int) := by omega
      have hi0 : (0 : Int) ≤ (i : Int) := by omega
      have hi9 : (i : Int) + 1 ≤ 2000000 := by have := HPS.out; have := HN.out; omega
      have hd : decide (i < n) = true := by simp; exact hlt
      have HCALL := Lib.hid (IH.out t (List.mem_of_getElem? ht) wr F us (hist.keep (fun q hq => OLD.out wr hB q (by rw [HBe.out]; exact HF.out q hq)) (fun q hq => hq)) (fun q hq => by have h1_ := HF.out q hq; have h2_ := hB.size; have h3_ := H3.out.2.2; have h4_ := HBe.out; omega) (HBK.out t (List.mem_of_getElem? ht)))
      have HBR := Lib.hid hB
      have HROW := Lib.hid hrow
      have HLT := Lib.hid hlt
      have HTI := Lib.hid ht
      clear hi ht hb1 hus hist h5 hcs hB hrow hlt
      go_upto_if 71 with (first
        | (refine wpList_load_arr rfl _ _ rfl b1 (off1 + i * 5) rfl us.toArray _ (by with_reducible exact HROW.out) Tryd.underlying25 rfl (by with_reducible exact hz5) ?_)
        | (go_at_call 20; go_must (refine HCALL.out.mono ?_; rintro e w5 ⟨bm, rfl, hb5, hp5⟩; have HB5 := Lib.hid hb5; have HP5 := Lib.hid hp5; clear hb5 hp5)))
      have HBX : Hid (Below (B + 1) w3 w5) := HBR.out.trans (HB5.out.mono (by have h2_ := HBR.out.size; have h3_ := H3.out.2.2; omega))
      clear c0 c1 c2 c3 c4 cf
      cases bm with
      | false =>
        simp only [Bool.not_false]
        go_wp2
        go_ret
        exact SaysB.no (by rw [← HBe.out]; exact H3.out.1.trans (HBX.out.mono (by omega)))
      | true =>
        simp only [Bool.not_true]
        obtain ⟨c0, c1, c2, c3, c4, cf⟩ := row5 (ROW.out w5 HBX.out)
        have HM5 : Hid (MADE t) := HP5.out rfl
        go_wp2
        go_loopw [] (fun wr2 => wr2 = w5) (fun _ => 0)
        case atStart => rfl
        case round =>
          have hrel := hrel.symm
          subst hrel
          go_wp2
          go_roundw
          case rel =>
            refine ⟨i + 1, HLT.out, by simp, HBX.out, fun x hx => ?_⟩
            rw [List.take_add_one, HTI.out] at hx
            rcases List.mem_append.1 hx with h | h
            · exact HMI.out x h
            · have h2 : x = t := by simpa using h
              rw [h2]; exact HM5.out
          case measure => have := HLT.out; simp [intOf]; omega
    · have hin : n = i := by omega
      subst hin
      have hd : decide (n < n) = false := by simp
      have HBR := Lib.hid hB
      clear hB hi hlt
      go_wp2
      go_ret
      exact SaysB.yes (by rw [← HBe.out]; exact H3.out.1.trans (HBR.out.mono (by omega))) (HM.out (MADEL_of ps (fun x hx => HMI.out x (by rw [HN.out, List.take_length]; exact hx))))
set_option maxRecDepth 100000 in
set_option maxHeartbeats 1000000 in
theorem made_obj {b : Bool} {s : List UInt8} {Ak Ap : Option Addr} {ck cp : Nat} {ks : List (List UInt8)} {uss : List (List Value)} {ps : List TR} (ih : ∀ t ∈ ps, MD t) (hbk : ∀ t ∈ ps, bulkT t ≤ 1048576) (hps : ps.length ≤ 1048576) (hu : uss.length = ps.length) (hrk : Rd w F Ak (strs ks)) (hsl : ∀ k ∈ ks, k.length ≤ 1048576) (hks : ks.length ≤ 1048576) (hrp : Rd w F Ap uss.flatten)
    (he : ∀ (i : Nat) (us : List Value) (t : TR), uss[i]? = some us → ps[i]? = some t → IsT w F us t) (hF : ∀ k, F k → k < w.heap.size) :
    Calls Tryd.prog 20 #[.agg #[.int .i64 5, .bool b, .string ⟨s.toArray⟩, .slice Ak ks.length ck, .slice Ap ps.length cp]] w (SaysB w (MADE (.mk 5 b s ks ps))) := by
  have HM : Hid (MADEL ps → (∀ i, i < ps.length → i < ks.length ∧ ValidU (ks.getD i []) ∧ ∀ j, j < i → ks.getD j [] ≠ ks.getD i []) → MADE (.mk 5 b s ks ps)) := by
    intro hv hkk
    rw [MADE]
    refine ⟨by omega, by omega, fun h => by omega, fun h => by omega, fun h => hv, fun h => hkk⟩
  obtain ⟨sb, hsb⟩ : ∃ sb : ByteArray, sb = ⟨s.toArray⟩ := ⟨_, rfl⟩
  rw [← hsb]
  clear hsb
  obtain ⟨n, hn⟩ : ∃ n, n = ps.length := ⟨_, rfl⟩
  obtain ⟨nk, hnk⟩ : ∃ nk, nk = ks.length := ⟨_, rfl⟩
  rw [← hn, ← hnk]
  have HNK := Lib.hid hnk
  have HRK := Lib.hid hrk
  have HSL := Lib.hid hsl
  have HKS := Lib.hid hks
  obtain ⟨B, hBe⟩ : ∃ B, B = w.heap.size := ⟨_, rfl⟩
  obtain ⟨w3, hw3⟩ : ∃ w3, w3 = w.alloc (.cells #[.int .i64 5, .bool b, .string sb, .slice Ak nk ck, .slice Ap n cp] 25) := ⟨_, rfl⟩
  have H3 : Hid (Below B w w3 ∧ w3.heap[B]? = some (.cells #[.int .i64 5, .bool b, .string sb, .slice Ak nk ck, .slice Ap n cp] 25 (0, 0)) ∧ w3.heap.size = B + 1) := by
    show _ ∧ _
    rw [hw3, hBe]
    exact ⟨(Below.refl _ _).alloc (Nat.le_refl _) _, heap_alloc_new _ _, by simp⟩
  have HBe := Lib.hid hBe
  have HN := Lib.hid hn
  have IH := Lib.hid ih
  have HBK := Lib.hid hbk
  have HU := Lib.hid hu
  have HRP := Lib.hid hrp
  have HE := Lib.hid he
  have HF := Lib.hid hF
  have HPS := Lib.hid hps
  have ROW : Hid (∀ wr, Below (B + 1) w3 wr → wr.heap[B]? = some (.cells #[.int .i64 5, .bool b, .string sb, .slice Ak nk ck, .slice Ap n cp] 25 (0, 0))) := fun wr hb => (hb.block B (by have := H3.out.2.2; omega)).trans H3.out.2.1
  have OLD : Hid (∀ wr, Below (B + 1) w3 wr → ∀ q, q < B → wr.heap[q]? = w.heap[q]?) := fun wr hb q hq => (hb.block q (by omega)).trans (H3.out.1.block q hq)
  clear ih hbk hu hrp he hF hps hn hnk hrk hsl hks
  go_enter Tryd.func20, Tryd.ntmps20
  go_wp2
  rw [← hw3, ← hBe]
  clear hw3 hBe
  go_loopw [62] (fun iv wr => ∃ i : Nat, i ≤ n ∧ iv = .int .i64 (i : Int) ∧ Below (B + 1) w3 wr ∧ Hid ((∀ x ∈ ps.take i, MADE x) ∧ ∀ i', i' < i → i' < ks.length ∧ ValidU (ks.getD i' []) ∧ ∀ j, j < i' → ks.getD j [] ≠ ks.getD i' [])) (fun iv _ => n - (intOf iv).toNat)
  case atStart => exact ⟨0, Nat.zero_le _, rfl, Below.refl _ _, (fun x h => by cases h), fun i' h => absurd h (Nat.not_lt_zero _)⟩
  case round =>
    obtain ⟨i, hi, rfl, hB, HMI⟩ := hrel
    by_cases hlt : i < n
    · obtain ⟨t, ht⟩ : ∃ t, ps[i]? = some t := ⟨_, List.getElem?_eq_getElem (by rw [← HN.out]; exact hlt)⟩
      obtain ⟨us, b1, off1, rfl, hb1, hus, hist, h5, hcs⟩ := HRP.out.row HU.out HE.out ht
      have hrow : wr.rangeAt b1 (off1 + i * 5) us.toArray.toList := by
        intro k x hx
        have hx' : us[k]? = some x := hx
        rw [World.cell?_of_block (w := w) (a := ⟨b1, off1 + i * 5 + k, none⟩) (OLD.out wr hB b1 (by rw [HBe.out]; exact HF.out b1 hb1))]
        exact hcs k x hx'
      have hz5 : (Tryd.prog.info? 25).map (·.size) = some us.toArray.size := by
        have : us.toArray.size = 5 := by simpa using h5
        rw [this]
        exact lawtree5
      obtain ⟨c0, c1, c2, c3, c4, cf⟩ := row5 (ROW.out wr hB)
      have hiI : (i : Int) < (n : Int) := by omega
      have hi0 : (0 : Int) ≤ (i : Int) := by omega
      have hi9 : (i : Int) + 1 ≤ 2000000 := by have := HPS.out; have := HN.out; omega
      have hd : decide (i < n) = true := by simp; exact hlt
      have HCALL := Lib.hid (IH.out t (List.mem_of_getElem? ht) wr F us (hist.keep (fun q hq => OLD.out wr hB q (by rw [HBe.out]; exact HF.out q hq)) (fun q hq => hq)) (fun q hq => by have h1_ := HF.out q hq; have h2_ := hB.size; have h3_ := H3.out.2.2; have h4_ := HBe.out; omega) (HBK.out t (List.mem_of_getElem? ht)))
      have HBR := Lib.hid hB
      have HROW := Lib.hid hrow
      have HLT := Lib.hid hlt
      have HTI := Lib.hid ht
      clear hi ht hb1 hus hist h5 hcs hB hrow hlt
      go_upto_if 71 with (first
        | (refine wpList_load_arr rfl _ _ rfl b1 (off1 + i * 5) rfl us.toArray _ (by with_reducible exact HROW.out) Tryd.underlying25 rfl (by with_reducible exact hz5) ?_)
        | (go_at_call 20; go_must (refine HCALL.out.mono ?_; rintro e w5 ⟨bm, rfl, hb5, hp5⟩; have HB5 := Lib.hid hb5; have HP5 := Lib.hid hp5; clear hb5 hp5)))
      have HBX : Hid (Below (B + 1) w3 w5) := HBR.out.trans (HB5.out.mono (by have h2_ := HBR.out.size; have h3_ := H3.out.2.2; omega))
      clear c0 c1 c2 c3 c4 cf
      cases bm with
      | false =>
        simp only [Bool.not_false]
        go_wp2
        go_ret
        exact SaysB.no (by rw [← HBe.out]; exact H3.out.1.trans (HBX.out.mono (by omega)))
      | true =>
        simp only [Bool.not_true]
        obtain ⟨c0, c1, c2, c3, c4, cf⟩ := row5 (ROW.out w5 HBX.out)
        have HM5 : Hid (MADE t) := HP5.out rfl
        by_cases hik : i < nk
        · obtain ⟨key, hkey⟩ : ∃ key, ks[i]? = some key := ⟨_, List.getElem?_eq_getElem (by rw [← HNK.out]; exact hik)⟩
          have hgk : ks.getD i [] = key := by simp [List.getD, hkey]
          have hsg := strs_get ks i key hkey
          obtain ⟨b2, off2, rfl, hb2, hc2⟩ := HRK.out (by intro h0; rw [h0] at hsg; simp at hsg)
          obtain ⟨KB, hKB⟩ : ∃ KB : ByteArray, KB = ⟨key.toArray⟩ := ⟨_, rfl⟩
          have hOLD2 : ∀ wy, Below (B + 1) w3 wy → ∀ (q : Nat) (kq : List UInt8), ks[q]? = some kq → wy.cell? ⟨b2, off2 + q, none⟩ = some (.string ⟨kq.toArray⟩) := by
            intro wy hby q kq hq
            rw [World.cell?_of_block (w := w) (a := ⟨b2, off2 + q, none⟩) (OLD.out wy hby b2 (by rw [HBe.out]; exact HF.out b2 hb2))]
            exact hc2 q _ (strs_get ks q kq hq)
          have HO2 := Lib.hid hOLD2
          have hck : w5.cell? ⟨b2, off2 + i, none⟩ = some (.string KB) := by rw [hKB]; exact hOLD2 w5 HBX.out i key hkey
          have HTX := Lib.hid (ltext_any KB key hKB (HSL.out key (List.mem_of_getElem? hkey)) w5)
          have hikI : (i : Int) < (nk : Int) := by omega
          have hge : decide ((i : Int) ≥ (nk : Int)) = false := by simp; omega
          have hge2 : decide (nk ≤ i) = false := by simp; omega
          have HKB := Lib.hid hKB
          have HKEY := Lib.hid hkey
          have HGK := Lib.hid hgk
          clear hik hsg hb2 hc2 hOLD2 hKB hkey hgk
          go_upto_if 90 with (go_at_call 42; go_must (refine HTX.out.mono ?_; rintro e w6 ⟨bt, rfl, hb6, hp6⟩; have HB6 := Lib.hid hb6; have HP6 := Lib.hid hp6; clear hb6 hp6))
          have HBY : Hid (Below (B + 1) w3 w6) := HBX.out.trans (HB6.out.mono (by have h2_ := HBX.out.size; have h3_ := H3.out.2.2; omega))
          clear c0 c1 c2 c3 c4 cf hck
          cases bt with
          | false =>
            simp only [Bool.not_false]
            go_wp2
            go_ret
            exact SaysB.no (by rw [← HBe.out]; exact H3.out.1.trans (HBY.out.mono (by omega)))
          | true =>
            simp only [Bool.not_true]
            obtain ⟨c0, c1, c2, c3, c4, cf⟩ := row5 (ROW.out w6 HBY.out)
            have HVK : Hid (ValidU key) := HP6.out rfl
            have HBD : Hid (∀ j, Below (B + 1) w3 (w6.drewN j)) := fun j => HBY.out.trans ⟨rfl, rfl, rfl, Nat.le_refl _, fun _ _ => rfl⟩
            have HBD2 : Hid (∀ j l, Below (B + 1) w3 ((w6.drewN j).drewN l)) := fun j l => HBY.out.trans ⟨rfl, rfl, rfl, Nat.le_refl _, fun _ _ => rfl⟩
            have hck : w6.cell? ⟨b2, off2 + i, none⟩ = some (.string KB) := by rw [HKB.out]; exact HO2.out w6 HBY.out i key HKEY.out
            go_wp2
            go_loopw [7] (fun kv wr2 => ∃ q : Nat, q ≤ i ∧ kv = .int .i64 (q : Int) ∧ (∃ jj, wr2 = w6.drewN jj) ∧ Hid (∀ q', q' < q → ks.getD q' [] ≠ key)) (fun kv _ => i - (intOf kv).toNat)
            case atStart => exact ⟨0, Nat.zero_le _, rfl, ⟨0, rfl⟩, fun q' h => absurd h (Nat.not_lt_zero _)⟩
            case round =>
              obtain ⟨q, hq, rfl, ⟨jj, rfl⟩, HFREE⟩ := hrel
              have hq0 : (0 : Int) ≤ (q : Int) := by omega
              by_cases hqi : q < i
              · have hqI : (q : Int) < (i : Int) := by omega
                have hqd : decide (q < i) = true := by simp; exact hqi
                have hqk : (q : Int) < (nk : Int) := by omega
                obtain ⟨kq, hkq⟩ : ∃ kq, ks[q]? = some kq := ⟨_, List.getElem?_eq_getElem (by rw [← HNK.out]; omega)⟩
                obtain ⟨XB, hXB⟩ : ∃ XB : ByteArray, XB = ⟨kq.toArray⟩ := ⟨_, rfl⟩
                have hcq : w6.cell? ⟨b2, off2 + q, none⟩ = some (.string ⟨kq.toArray⟩) := HO2.out w6 HBY.out q kq hkq
                rw [← hXB] at hcq
                have HQI := Lib.hid hqi
                have hq9 : (q : Int) + 1 ≤ 2000000 := by omega
                by_cases heq : kq = key
                · have hX : XB = KB := by rw [hXB, heq, HKB.out]
                  subst hX
                  have teq : (XB.toList == XB.toList) = true := by simp
                  clear heq hXB hq hqi hkq
                  go_wp2
                  go_quiet (fail)
                  go_wp2
                  go_ret
                  exact SaysB.no (by rw [← HBe.out]; first | exact H3.out.1.trans ((HBD.out _).mono (by omega)) | exact H3.out.1.trans ((HBD2.out _ _).mono (by omega)))
                · have teq : (XB.toList == KB.toList) = false := by
                    rw [hXB, HKB.out]
                    exact ba_ne heq
                  have HNE : Hid (ks.getD q [] ≠ key) := by show _ ≠ _; simp [List.getD, hkq]; exact heq
                  clear heq hXB hq hqi hkq
                  go_wp2
                  go_quiet (fail)
                  go_wp2
                  go_roundw
                  case rel =>
                    refine ⟨q + 1, HQI.out, by simp, (by first | exact ⟨_, rfl⟩ | exact drew_more ⟨_, rfl⟩), fun q' hq' => ?_⟩
                    rcases Nat.lt_or_ge q' q with h | h
                    · exact HFREE.out q' h
                    · have h2 : q' = q := by omega
                      rw [h2]; exact HNE.out
                  case measure => have := HQI.out; simp [intOf]; omega
              · have hqe : q = i := by omega
                subst hqe
                have hqd : decide (q < q) = false := by simp
                clear hq hqi
                go_wp2
                go_roundw
                case rel =>
                  refine ⟨q + 1, HLT.out, by simp, HBD.out _, fun x hx => ?_, fun i' hi' => ?_⟩
                  · rw [List.take_add_one, HTI.out] at hx
                    rcases List.mem_append.1 hx with h | h
                    · exact HMI.out.1 x h
                    · have h2 : x = t := by simpa using h
                      rw [h2]; exact HM5.out
                  · rcases Nat.lt_or_ge i' q with h | h
                    · exact HMI.out.2 i' h
                    · have h2 : i' = q := by omega
                      subst h2
                      rw [HGK.out]
                      exact ⟨(List.getElem?_eq_some_iff.1 HKEY.out).1, HVK.out, HFREE.out⟩
                case measure => have := HLT.out; simp [intOf]; omega
        · have hge : decide ((i : Int) ≥ (nk : Int)) = true := by simp; omega
          have hge2 : decide (nk ≤ i) = true := by simp; omega
          clear hik
          go_wp2
          go_ret
          exact SaysB.no (by rw [← HBe.out]; exact H3.out.1.trans (HBX.out.mono (by omega)))
    · have hin : n = i := by omega
      subst hin
      have hd : decide (n < n) = false := by simp
      have HBR := Lib.hid hB
      clear hB hi hlt
      go_wp2
      go_ret
      exact SaysB.yes (by rw [← HBe.out]; exact H3.out.1.trans (HBR.out.mono (by omega))) (HM.out (MADEL_of ps (fun x hx => HMI.out.1 x (by rw [HN.out, List.take_length]; exact hx))) (fun i' h => HMI.out.2 i' (by rw [HN.out]; exact h)))
end
theorem sum_mem : ∀ (ks : List (List UInt8)) (k : List UInt8), k ∈ ks → k.length + 1 ≤ (ks.map (fun k => k.length + 1)).sum
  | a :: ks, k, h => by
    rw [List.map_cons, List.sum_cons]
    rcases List.mem_cons.1 h with rfl | h
    · omega
    · have := sum_mem ks k h; omega
theorem sum_len : ∀ ks : List (List UInt8), ks.length ≤ (ks.map (fun k => k.length + 1)).sum
  | [] => Nat.zero_le _
  | a :: ks => by
    have := sum_len ks
    rw [List.map_cons, List.sum_cons, List.length_cons]
    omega
theorem md_all : ∀ (n : Nat) (t : TR), SizeOf.sizeOf t ≤ n → MD t
  | 0, t, hn => by cases t; simp at hn
  | n + 1, t, hn => by
    intro w F us hv hF hb
    cases hv with
    | mk k b s Ak ck ks Ap cp uss ps hu hk hp he =>
      rw [bulkT] at hb
      have hs : ∀ p ∈ ps, MD p := fun p hm => md_all n p (by
        have := List.sizeOf_lt_of_mem hm
        simp at hn
        omega)
      have hbk : ∀ p ∈ ps, bulkT p ≤ 1048576 := fun p hm => by have := bulkTL_mem ps p hm; omega
      have hpl := bulkTL_len ps
      have hsl := sum_len ks
      by_cases h0 : k = 0 ∨ k = 1
      · exact made_leaf h0
      by_cases h2 : k = 2
      · subst h2; exact made_num
      by_cases h3 : k = 3
      · subst h3; exact made_text (by omega)
      by_cases h4 : k = 4
      · subst h4; exact made_list hs hbk (by omega) hu hp he hF
      by_cases h5 : k = 5
      · subst h5; exact made_obj hs hbk (by omega) hu hk (fun y hy => by have := sum_mem ks y hy; omega) (by omega) hp he hF
      exact made_out (by omega)
/-- The law's made. -/
theorem made_any {w : World} {F : Nat → Prop} {us : List Value} {t : TR} (h : IsT w F us t) (hF : ∀ k, F k → k < w.heap.size) (hb : bulkT t ≤ 1048576) : Calls Tryd.prog 20 #[.agg us.toArray] w (SaysB w (MADE t)) :=
  md_all _ t (Nat.le_refl _) w F us h hF hb
theorem nodup_range (f : Nat → List UInt8) : ∀ n : Nat, (∀ i, i < n → ∀ j, j < i → f j ≠ f i) → ((List.range n).map f).Nodup
  | 0, _ => by simp
  | n + 1, h => by
    rw [List.range_succ, List.map_append, List.nodup_append]
    refine ⟨nodup_range f n (fun i hi j hj => h i (by omega) j hj), by simp, fun a ha b hb => ?_⟩
    obtain ⟨j, hj, rfl⟩ := List.mem_map.1 ha
    have hb' : b = f n := by simpa using hb
    rw [hb']
    exact h n (by omega) j (by simpa using hj)
mutual
theorem made_good : ∀ (t : TR) (d : Nat), MADE t → deepT t (d : Int) = false → goodJ (valT t) d
  | .mk k b s ks ps, d, hm, hd => by
    rw [MADE] at hm
    obtain ⟨m0, m1, m3, m2, m4, m5⟩ := hm
    rw [deepT, Bool.or_eq_false_iff, Bool.and_eq_false_iff] at hd
    obtain ⟨_, hd⟩ := hd
    rw [valT]
    by_cases h0 : k = 0
    · rw [if_pos h0]; simp [goodJ]
    rw [if_neg h0]
    by_cases h1 : k = 1
    · rw [if_pos h1]; simp [goodJ]
    rw [if_neg h1]
    by_cases h2 : k = 2
    · rw [if_pos h2, goodJ]; exact m2 h2
    rw [if_neg h2]
    by_cases h3 : k = 3
    · rw [if_pos h3, goodJ]; exact m3 h3
    rw [if_neg h3]
    have hk45 : k = 4 ∨ k = 5 := by omega
    have hd' : deepTL ps ((d : Int) - 1) = false ∧ ¬ (d : Int) < 1 := by
      rcases hd with h | h
      · exfalso
        rcases hk45 with rfl | rfl <;> simp at h
      · rw [Bool.or_eq_false_iff] at h
        exact ⟨h.1, by simpa using h.2⟩
    have hL := made_goodL ps (d - 1) (m4 hk45) (by rw [show ((d - 1 : Nat) : Int) = (d : Int) - 1 by omega]; exact hd'.1)
    by_cases h4 : k = 4
    · rw [if_pos h4, goodJ]
      exact ⟨by omega, hL⟩
    have h5 : k = 5 := by omega
    rw [if_neg h4, if_pos h5, goodJ]
    refine ⟨by omega, by rw [keysOf_len, valTL_map, List.length_map], ?_, ?_, hL⟩
    · exact nodup_range _ _ (fun i hi j hj => (m5 h5 i hi).2.2 j hj)
    · intro y hy
      obtain ⟨i, hi, rfl⟩ := List.mem_map.1 hy
      exact (m5 h5 i (by simpa using hi)).2.1
theorem made_goodL : ∀ (l : List TR) (d : Nat), MADEL l → deepTL l (d : Int) = false → goodJL (valTL l) d
  | [], _, _, _ => by simp [valTL, goodJL]
  | t :: l, d, hm, hd => by
    rw [MADEL] at hm
    rw [deepTL, Bool.or_eq_false_iff] at hd
    rw [valTL, goodJL]
    exact ⟨made_good t d hm.1 hd.1, made_goodL l d hm.2 hd.2⟩
end
mutual
theorem made_MJ : ∀ t : TR, MADE t → bulkT t ≤ 1048576 → MJ (valT t) (oursT t) ∧ okJ (valT t) = true
  | .mk k b s ks ps, hm, hb => by
    rw [MADE] at hm
    obtain ⟨m0, m1, m3, m2, m4, m5⟩ := hm
    rw [bulkT] at hb
    rw [valT, oursT]
    by_cases h0 : k = 0
    · rw [if_pos h0]; exact ⟨by rw [MJ]; exact h0, by simp [okJ]⟩
    rw [if_neg h0]
    by_cases h1 : k = 1
    · rw [if_pos h1]; exact ⟨by rw [MJ]; exact ⟨h1, rfl⟩, by simp [okJ]⟩
    rw [if_neg h1]
    by_cases h2 : k = 2
    · rw [if_pos h2]; exact ⟨by rw [MJ]; exact ⟨h2, rfl⟩, by simp [okJ]⟩
    rw [if_neg h2]
    by_cases h3 : k = 3
    · rw [if_pos h3]; exact ⟨by rw [MJ]; exact ⟨h3, rfl⟩, by simp [okJ]⟩
    rw [if_neg h3]
    have hL := made_MJL ps (m4 (by omega)) (by omega)
    have hpl := bulkTL_len ps
    have hlen : (valTL ps).length ≤ 1048576 := by rw [valTL_map, List.length_map]; omega
    by_cases h4 : k = 4
    · rw [if_pos h4]
      exact ⟨by rw [MJ]; exact ⟨h4, hL.1⟩, by rw [okJ, Bool.and_eq_true, decide_eq_true_eq]; exact ⟨hlen, hL.2⟩⟩
    have h5 : k = 5 := by omega
    rw [if_neg h4, if_pos h5]
    exact ⟨by rw [MJ]; exact ⟨h5, rfl, hL.1⟩, by rw [okJ, Bool.and_eq_true, decide_eq_true_eq]; exact ⟨hlen, hL.2⟩⟩
theorem made_MJL : ∀ l : List TR, MADEL l → bulkTL l ≤ 1048576 → MJL (valTL l) (oursTL l) ∧ okJL (valTL l) = true
  | [], _, _ => by simp [valTL, oursTL, MJL, okJL]
  | t :: l, hm, hb => by
    rw [MADEL] at hm
    rw [bulkTL] at hb
    have h1 := made_MJ t hm.1 (by omega)
    have h2 := made_MJL l hm.2 (by omega)
    rw [valTL, oursTL, MJL, okJL, h1.2, h2.2]
    exact ⟨⟨h1.1, h2.1⟩, rfl⟩
end
end Go.Proofs.YtkbopeoaoakfnaaDoor
