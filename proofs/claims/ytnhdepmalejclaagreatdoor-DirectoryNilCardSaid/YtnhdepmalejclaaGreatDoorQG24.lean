/- The texts AT RS1 RS2 AB ED2 of this work, merged by wip/merge.py. No conditions. -/
import Derived.Test.YtnhdepmalejclaaGreatDoorQG23
import Derived.Test.YtnhdepmalejclaaGreatDoorQG14
import Derived.Test.YtnhdepmalejclaaGreatDoorQG01
import Derived.Test.YtnhdepmalejclaaGreatDoorQG21
namespace Go.Proofs.YtnhdepmalejclaaGreatDoor
open Go.RowKit Go.Lib
def OwnB (w : World) (base : Nat) (v : Value) (l : List UInt8) : Prop := (v = .slice none 0 0 ∧ l = []) ∨ OwnT w base v l
theorem OwnB.of8 {w : World} {base : Nat} {v : Value} {l : List UInt8} (h : Own8 w base v l) : OwnB w base v l := by
  obtain ⟨hl, ⟨h1, h2⟩ | ⟨g, cap, cur, h1, h2, h3, h4, h5, h6, h7⟩⟩ := h
  · exact .inl ⟨h1, List.length_eq_zero_iff.1 h2⟩
  · exact .inr ⟨g, cap, cur, (0, 0), h1, h2, h3, .inl rfl, h4, h5, by rw [h6, Nat.mul_one], by rw [Nat.mul_one] at h7; exact h7⟩
theorem OwnT.keep {w w' : World} {base : Nat} {v : Value} {l : List UInt8} (h : OwnT w base v l) (hk : ∀ g, v.ownBlock = some g → w'.heap[g]? = w.heap[g]?) : OwnT w' base v l := by
  obtain ⟨g, cap, cur, fz, rfl, hb, hg, h2⟩ := h
  exact ⟨g, cap, cur, fz, rfl, hb, (hk g rfl).trans hg, h2⟩
theorem OwnB.lt {w : World} {base : Nat} {v : Value} {l : List UInt8} (h : OwnB w base v l) : ∀ k, v.ownBlock = some k → base ≤ k ∧ k < w.heap.size := by
  rcases h with ⟨rfl, _⟩ | ⟨g, cap, cur, fz, rfl, hb, hg, _⟩
  · intro k hk; cases hk
  · intro k hk; cases hk; exact ⟨hb, lt_of_some hg⟩
theorem OwnB.later {w w' : World} {base : Nat} {v : Value} {l : List UInt8} (h : OwnB w base v l) (hb : Below w.heap.size w w') : OwnB w' base v l := by
  rcases h with h | h
  · exact .inl h
  · refine .inr (h.keep fun g hg => hb.block g ?_)
    exact (OwnB.lt (.inr h) g hg).2
theorem OwnB.reads {w : World} {base : Nat} {v : Value} {l : List UInt8} (h : OwnB w base v l) : ∃ A c, v = .slice A l.length c ∧ l.length ≤ c ∧ Reads w w.heap.size 1 A l.length (bvs l) := by
  rcases h with ⟨rfl, rfl⟩ | h
  · exact ⟨none, 0, rfl, Nat.le_refl _, Reads.none_⟩
  · have h2 := h
    obtain ⟨g, cap, hv, _, hr⟩ := h.reads
    obtain ⟨g', cap', cur, fz, hv', _, _, _, hl, _⟩ := h2
    rw [hv'] at hv
    cases hv
    exact ⟨_, _, hv', hl, hr⟩
/-- The blocks bs, and a slice of the call's own that holds l. -/
structure AT (w0 w : World) (bs : List (Nat × Array Value × TypeId)) (v : Value) (l : List UInt8) : Prop where
  bk : BK w0 w bs
  own : OwnB w w0.heap.size v l
  fresh : ∀ b, v.ownBlock = some b → b ∉ bs.map (·.1)
theorem AT.start {w0 w : World} {bs : List (Nat × Array Value × TypeId)} (h : BK w0 w bs) : AT w0 w bs (.slice none 0 0) [] := ⟨h, .inl ⟨rfl, rfl⟩, fun _ e => by cases e⟩
theorem AT.later {w0 w w' : World} {bs : List (Nat × Array Value × TypeId)} {v : Value} {l : List UInt8} (h : AT w0 w bs v l) (hb : Below w.heap.size w w') : AT w0 w' bs v l := ⟨h.bk.later hb, h.own.later hb, h.fresh⟩
theorem AT.grown {w0 w w' : World} {bs : List (Nat × Array Value × TypeId)} {v v' : Value} {l l' : List UInt8} (h : AT w0 w bs v l) (ho : OwnB w' w0.heap.size v' l') (hg : w.grownBy w' v.ownBlock) (hx : v'.ownBlock = v.ownBlock ∨ v'.ownBlock = some w.heap.size) : AT w0 w' bs v' l' := by
  refine ⟨⟨h.bk.below.grown hg h.bk.below.size (fun k hk => (h.own.lt k hk).1), h.bk.nodup, h.bk.own, fun e he => ?_⟩, ho, fun b hb hm => ?_⟩
  · refine (hg.block e.1 (lt_of_heap (h.bk.row e he)) (fun e1 => ?_)).trans (h.bk.row e he)
    exact h.fresh e.1 e1.symm (List.mem_map.2 ⟨e, he, rfl⟩)
  · rcases hx with hx | hx
    · exact h.fresh b (hx ▸ hb) hm
    · rw [hx] at hb
      cases hb
      exact h.bk.not_new (Nat.le_refl _) hm
/-- One block more. -/
theorem AT.mk' {w0 w w' : World} {bs bs' : List (Nat × Array Value × TypeId)} {v : Value} {l : List UInt8} (h : AT w0 w bs v l) (hb : Below w.heap.size w w') (hB : BK w0 w' bs') (hn : ∀ x ∈ bs'.map (·.1), x ∈ bs.map (·.1) ∨ w.heap.size ≤ x) : AT w0 w' bs' v l :=
  ⟨hB, h.own.later hb, fun b hb' hm => (hn b hm).elim (h.fresh b hb') (fun h1 => by have := (h.own.lt b hb').2; omega)⟩
section
variable {ops : Array Oper} {rest : List Oper} {o : Oper} {a : Act} {w0 w : World} {Q : Exit → Act → World → Prop} {bs : List (Nat × Array Value × TypeId)}
theorem s_appB {v : Value} {l : List UInt8} (F : AT w0 w bs v l) (hg : o.guard = none) {s x : Operand} (ho : o.op = .call { callee := .builtin .append, args := #[s, x], argTypes := #[108, 108] }) {B m c : Nat} {A : Option Addr} {news : List UInt8}
    (hs : a.eval s = v) (hx : a.eval x = .slice A m c) (hr : Reads w B 1 A m (bvs news)) (hbytes : l.length + m ≤ 140737488355328)
    (h : ∀ v' w', AT w0 w' bs v' (l ++ news) → wpList Tryz.prog ops Q rest (a.put o.dst v') w') : wpList Tryz.prog ops Q (o :: rest) a w := by
  rcases F.own with ⟨rfl, rfl⟩ | hT
  · exact app8 hg ho hs hx (own8_nil w w0.heap.size) hr hbytes F.bk.below.size (fun v' w' h1 h2 h3 => h v' w' (F.grown (OwnB.of8 h1) h2 h3))
  · exact appT hg ho hs hx hT hr hbytes F.bk.below.size (fun v' w' h1 h2 h3 => h v' w' (F.grown (.inr h1) h2 h3))
/-- A string's bytes, made anew. -/
theorem s_conv (F : BK w0 w bs) (hg : o.guard = none) {x : Operand} (ho : o.op = .convert 9 108 x) (l : List UInt8) (hx : a.eval x = .string ⟨l.toArray⟩) (hl : l.length ≤ maxLen)
    (h : ∀ v w', AT w0 w' bs v l → wpList Tryz.prog ops Q rest (a.put o.dst v) w') : wpList Tryz.prog ops Q (o :: rest) a w := by
  refine wpList_plain hg fun _ hK => ?_
  have hBW : Below w.heap.size w (Lib.bytesWorld w 5 ⟨l.toArray⟩) := by
    refine ⟨?_, ?_, ?_, by rw [Lib.bytesWorld_size]; omega, fun k hk => Lib.bytesWorld_at_old w _ _ k hk⟩
    all_goals (unfold Lib.bytesWorld World.freeze; rw [if_neg (by decide)]; rfl)
  have hconv := Lib.run_convert_string_bytes (P := Tryz.prog) w 9 108 5 ⟨l.toArray⟩ (u := .string) Tryz.underlying9 Tryz.underlying108 Tryz.underlying5
  unfold Oper.wp execOp
  simp only [ho, hx, hconv, Sem.run_bind, Sem.run_pure, Result.andThen_ok]
  refine hK _ _ (h _ _ ?_)
  have hT := ownT_bytes w l hl
  have hT' : OwnB (Lib.bytesWorld w 5 ⟨l.toArray⟩) w0.heap.size (.slice (some ⟨w.heap.size, 0, none⟩) (⟨l.toArray⟩ : ByteArray).size (grownCap w (⟨l.toArray⟩ : ByteArray).size 0 5)) l := by
    obtain ⟨g, cap, cur, fz, h1, h2, h3⟩ := hT
    exact .inr ⟨g, cap, cur, fz, h1, by have := F.below.size; omega, h3⟩
  refine ⟨F.later hBW, hT', fun b hb hm => ?_⟩
  cases hb
  exact F.not_new (Nat.le_refl _) hm
end
end Go.Proofs.YtnhdepmalejclaaGreatDoor

namespace Go.Proofs.YtnhdepmalejclaaGreatDoor
open Go.RowKit Go.Lib
def ror32 (x : Int) (n : Nat) : Int := bits .or .u32 (x / 2 ^ n) (x * 2 ^ (32 - n) % 4294967296)
def ror64 (x : Int) (n : Nat) : Int := bits .or .u64 (x / 2 ^ n) (IntKind.u64.wrap (x * 2 ^ (64 - n)))
set_option maxRecDepth 100000 in
theorem ror32_any (x z : Int) (hz : 0 ≤ z ∧ z ≤ 32) (w : World) : Calls Tryz.prog 102 #[.int .u32 x, .int .u64 z] w fun e w' => e = .returned (.int .u32 (ror32 x z.toNat)) ∧ w' = w := by
  obtain ⟨n, rfl⟩ := Int.eq_ofNat_of_zero_le hz.1
  have h1 : (0 : Int) ≤ (n : Int) := hz.1
  have h2 : (n : Int) ≤ 32 := hz.2
  go_enter Tryz.func102, Tryz.ntmps102
  go_wp2
  go_ret
  exact ⟨rfl, rfl⟩
set_option maxRecDepth 100000 in
theorem ror64_any (x z : Int) (hz : 0 ≤ z ∧ z ≤ 64) (w : World) : Calls Tryz.prog 140 #[.int .u64 x, .int .u64 z] w fun e w' => e = .returned (.int .u64 (ror64 x z.toNat)) ∧ w' = w := by
  obtain ⟨n, rfl⟩ := Int.eq_ofNat_of_zero_le hz.1
  have h1 : (0 : Int) ≤ (n : Int) := hz.1
  have h2 : (n : Int) ≤ 64 := hz.2
  go_enter Tryz.func140, Tryz.ntmps140
  go_wp2
  go_ret
  exact ⟨rfl, rfl⟩
theorem bs0 (w : World) : (Instr.buildSlice 108 0 #[]).run Tryz.prog w = .ok (.slice (some ⟨w.heap.size, 0, none⟩) 0 0) (w.alloc (.cells #[] 5)) := by kernel_rfl
theorem bs1u (x : Int) (w : World) : (Instr.buildSlice 108 1 #[(0, .int .u8 x)]).run Tryz.prog w = .ok (.slice (some ⟨w.heap.size, 0, none⟩) 1 1) (w.alloc (.cells #[.int .u8 x] 5)) := by kernel_rfl
section
variable {ops : Array Oper} {rest : List Oper} {o : Oper} {a : Act} {w0 w : World} {Q : Exit → Act → World → Prop} {bs : List (Nat × Array Value × TypeId)}
/-- A new slice of no bytes, to be appended to. -/
theorem s_empty (F : BK w0 w bs) (hg : o.guard = none) (ho : o.op = .buildSlice 108 0 #[]) (h : ∀ v w', AT w0 w' bs v [] → wpList Tryz.prog ops Q rest (a.put o.dst v) w') : wpList Tryz.prog ops Q (o :: rest) a w := by
  refine wpList_plain hg fun _ hK => ?_
  have e : ((#[] : Array (Nat × Operand)).map fun x => match x with | (i, x) => (i, a.eval x)) = #[] := by simp
  unfold Oper.wp execOp
  simp only [ho, e, bs0 w, Sem.run_bind, Sem.run_pure, Result.andThen_ok]
  refine hK _ _ (h _ _ ⟨F.later ((Below.refl _ _).alloc (Nat.le_refl _) _), .inr ⟨w.heap.size, 0, #[], (0, 0), rfl, F.below.size, heap_alloc_new w _, .inl rfl, Nat.le_refl _, Nat.zero_le _, rfl, rfl⟩, fun b hb hm => ?_⟩)
  cases hb
  exact F.not_new (Nat.le_refl _) hm
/-- A new slice of one byte, beside what is gathered. -/
theorem s_byteT {v : Value} {l : List UInt8} (F : AT w0 w bs v l) (hg : o.guard = none) {x : Operand} (ho : o.op = .buildSlice 108 1 #[(0, x)]) (u : UInt8) (hx : a.eval x = .int .u8 (u.toNat : Int))
    (h : ∀ w' b, AT w0 w' ((b, (bvs [u]).toArray, 5) :: bs) v l → wpList Tryz.prog ops Q rest (a.put o.dst (.slice (some ⟨b, 0, none⟩) 1 1)) w') : wpList Tryz.prog ops Q (o :: rest) a w := by
  refine wpList_plain hg fun K hK => ?_
  have e : ((#[(0, x)] : Array (Nat × Operand)).map fun y => match y with | (i, y) => (i, a.eval y)) = #[(0, .int .u8 (u.toNat : Int))] := by simp only [List.map_toArray, List.map_cons, List.map_nil, hx]
  unfold Oper.wp execOp
  simp only [ho, e, bs1u (u.toNat : Int) w, Sem.run_bind, Sem.run_pure, Result.andThen_ok]
  have hb : Below w.heap.size w (w.alloc (.cells #[.int .u8 (u.toNat : Int)] 5)) := (Below.refl _ _).alloc (Nat.le_refl _) _
  refine hK _ _ (h _ _ (F.mk' hb (F.bk.alloc rfl _ _) (fun x hx => ?_)))
  rcases List.mem_cons.1 hx with rfl | hx
  · exact .inr (Nat.le_refl _)
  · exact .inl hx
theorem AT.reads0 {v : Value} {l news : List UInt8} {b n : Nat} (F : AT w0 w ((b, (bvs news).toArray, 5) :: bs) v l) (hn : news.length = n) : Reads w w.heap.size 1 (some ⟨b, 0, none⟩) n (bvs news) :=
  F.bk.reads 0 rfl 0 n news hn (fun j _ => by rw [Nat.zero_add, List.getElem?_toArray])
theorem AT.drop {v : Value} {l : List UInt8} {x : Nat × Array Value × TypeId} (F : AT w0 w (x :: bs) v l) : AT w0 w bs v l :=
  ⟨⟨F.bk.below, (List.nodup_cons.1 F.bk.nodup).2, fun e he => F.bk.own e (List.mem_cons_of_mem _ he), fun e he => F.bk.row e (List.mem_cons_of_mem _ he)⟩, F.own, fun b hb hm => F.fresh b hb (List.mem_cons_of_mem _ hm)⟩
end
end Go.Proofs.YtnhdepmalejclaaGreatDoor

namespace Go.Proofs.YtnhdepmalejclaaGreatDoor
open Go.RowKit Go.Lib
def padN_ (n bk ln : Nat) : Nat := (bk - (n + 1 + ln) % bk) % bk
def lenAt (bits ln j : Nat) : UInt8 := if 8 ≤ ln - 1 - j then 0 else UInt8.ofNat (bits / 2 ^ (8 * (ln - 1 - j)))
def lenR (bits ln k : Nat) : List UInt8 := (List.range k).map (lenAt bits ln)
theorem lenR_succ (bits ln k : Nat) : lenR bits ln (k + 1) = lenR bits ln k ++ [lenAt bits ln k] := by unfold lenR; rw [List.range_succ, List.map_append]; rfl
def padR (l : List UInt8) (bk ln : Nat) : List UInt8 := l ++ [128] ++ List.replicate (padN_ l.length bk ln) 0 ++ lenR (8 * l.length) ln ln
theorem pad_more {n bk ln k : Nat} (hbk : 0 < bk) (hk : k ≤ padN_ n bk ln) : (n + 1 + k + ln) % bk = 0 ↔ k = padN_ n bk ln := by
  unfold padN_ at *
  have h1 : (n + 1 + ln) % bk < bk := Nat.mod_lt _ hbk
  have e : n + 1 + k + ln = (n + 1 + ln) + k := by omega
  rw [e]
  have hd := Nat.div_add_mod (n + 1 + ln) bk
  generalize (n + 1 + ln) % bk = r at *
  generalize (n + 1 + ln) / bk = q at *
  have e2 : n + 1 + ln + k = bk * q + (r + k) := by omega
  rw [e2, Nat.mul_add_mod]
  by_cases h0 : r = 0
  · subst h0
    rw [Nat.sub_zero, Nat.mod_self] at *
    have : k = 0 := by omega
    subst this
    simp
  · rw [Nat.mod_eq_of_lt (show bk - r < bk by omega)] at *
    constructor
    · intro h
      have h3 : r + k ≤ bk := by omega
      rcases Nat.lt_or_ge (r + k) bk with h4 | h4
      · rw [Nat.mod_eq_of_lt h4] at h; omega
      · omega
    · intro h
      have : r + k = bk := by omega
      rw [this, Nat.mod_self]
def PadPost (y : List UInt8) (w : World) (e : Ending) (w' : World) : Prop := ∃ A c, e = .returned (.slice A y.length c) ∧ y.length ≤ c ∧ Reads w' w'.heap.size 1 A y.length (bvs y) ∧ Below w.heap.size w w' ∧ ∀ ad, A = some ad → w.heap.size ≤ ad.block
set_option maxRecDepth 100000 in
set_option maxHeartbeats 1000000 in
theorem padded_any (A : Option Addr) (n c : Nat) (l : List UInt8) (bk ln : Nat) (hbk : 0 < bk) (hbk2 : bk ≤ 1000) (hln : ln ≤ 1000) (hn : n ≤ 1000000) (w : World) (hr : Reads w w.heap.size 1 A n (bvs l)) :
    Calls Tryz.prog 101 #[.slice A n c, .int .i64 (bk : Int), .int .i64 (ln : Int)] w (PadPost (padR l bk ln) w) := by
  have F0 := Lib.hid (BK.start w)
  have T0 : Hid True := trivial
  have hl : l.length = n := by have := hr.1; rw [bvs_length] at this; omega
  have HR := Lib.hid hr
  have HL := Lib.hid hl
  clear hr
  go_enter Tryz.func101, Tryz.ntmps101
  go_wp2_with (first
    | (have hx_ := T0; refine s_empty F0.out rfl rfl ?_; clear hx_ T0; intro v1 w1 h1; have F1 := Lib.hid h1; clear h1 F0; have T1 : Hid True := trivial)
    | (have hx_ := T1; refine s_appB F1.out rfl rfl rfl rfl (HR.out.below F1.out.bk.below) (by simp; omega) ?_; clear hx_ T1; intro v2 w2 h1; have F2 := Lib.hid h1; clear h1 F1; have T2 : Hid True := trivial)
    | (have hx_ := T2; refine s_byteT F2.out rfl rfl 128 rfl ?_; clear hx_ T2; intro w3 b3 h1; have F3 := Lib.hid h1; clear h1 F2; have T3 : Hid True := trivial)
    | (have hx_ := T3; refine s_appB F3.out rfl rfl rfl rfl (F3.out.reads0 rfl) (by simp [HL.out]; omega) ?_; clear hx_ T3; intro v4 w4 h1; have F4 := Lib.hid h1.drop; clear h1 F3))
  simp only [List.nil_append] at F4
  obtain ⟨base, hbase⟩ : ∃ b, b = l ++ [128] := ⟨_, rfl⟩
  rw [← hbase] at F4
  have Lb : Hid (base.length = n + 1) := by show _ = _; rw [hbase, List.length_append, HL.out]; rfl
  obtain ⟨z, hz⟩ : ∃ z, z = padN_ n bk ln := ⟨_, rfl⟩
  have ZB : z < bk := by rw [hz]; exact Nat.mod_lt _ hbk
  have ZI : Hid (∀ k, k ≤ z → ((n + 1 + k + ln) % bk = 0 ↔ k = z)) := fun k hk => by rw [hz] at hk ⊢; exact pad_more hbk hk
  have HB := Lib.hid hbase
  have HZ := Lib.hid hz
  have HZB := Lib.hid ZB
  clear hz hbase ZB
  go_loopw [7] (fun v wr => ∃ k : Nat, k ≤ z ∧ Hid (AT w wr [] v (base ++ List.replicate k 0))) (fun v _ => n + 1 + z - (match v with | .slice _ m _ => m | _ => 0))
  case atStart => exact ⟨0, Nat.zero_le _, by rw [List.replicate_zero, List.append_nil]; exact F4.out⟩
  case round =>
    obtain ⟨k, hk, hF⟩ := hrel
    obtain ⟨L, hL⟩ : ∃ L, L = base ++ List.replicate k 0 := ⟨_, rfl⟩
    rw [← hL] at hF
    obtain ⟨A', c', hv, hc', hr'⟩ := hF.out.own.reads
    subst hv
    have hll : L.length = n + 1 + k := by rw [hL, List.length_append, Lb.out, List.length_replicate]
    obtain ⟨M, hM⟩ : ∃ M, M = L.length := ⟨_, rfl⟩
    rw [← hM] at hF hc' hr' ⊢
    have HM := Lib.hid hM
    have HL2 := Lib.hid hL
    have HLL := Lib.hid hll
    have HF := hF
    have i1 := ZI.out k hk
    have HK := Lib.hid hk
    have m0 : (0 : Int) ≤ (M : Int) := by omega
    have m1 : (M : Int) ≤ 1002000 := by have := HZB.out; omega
    have b0 : (0 : Int) < (bk : Int) := by omega
    have b1 : (bk : Int) ≤ 1000 := by omega
    have l0 : (0 : Int) ≤ (ln : Int) := by omega
    have l1 : (ln : Int) ≤ 1000 := by omega
    have w1_ : wrap64 ((M : Int) + (ln : Int)) = (M : Int) + (ln : Int) := by unfold wrap64; omega
    have e : ((M : Int) + (ln : Int)) % (bk : Int) = (((n + 1 + k + ln) % bk : Nat) : Int) := by
      have e : (M : Int) + (ln : Int) = ((n + 1 + k + ln : Nat) : Int) := by omega
      rw [e]; rfl
    clear hF hc' hr' F4 hL hll hM
    by_cases hkz : k = z
    · have hm : (((M : Int) + (ln : Int)) % (bk : Int) != 0) = false := by rw [e, i1.2 hkz]; rfl
      clear e i1 hk
      go_wp2
      have PB : Hid (L = l ++ [128] ++ List.replicate (padN_ n bk ln) 0) := by show _ = _; rw [HL2.out, HB.out, hkz, HZ.out]
      have PR : Hid (padR l bk ln = L ++ lenR (8 * n) ln ln) := by show _ = _; unfold padR; rw [HL.out, PB.out]
      have BM : Hid (M ≤ 1002000) := by show _ ≤ _; have := HLL.out; have := HM.out; have := HZB.out; omega
      clear hm m1 w1_ b0 b1 hkz PB HB HZ HZB ZI HK
      have n0 : (0 : Int) ≤ (n : Int) := by omega
      have n1 : (n : Int) ≤ 1000000 := by omega
      go_loopw [7, 9] (fun v iv wr => ∃ q : Nat, q ≤ ln ∧ iv = .int .i64 ((q : Int) - 1) ∧ Hid (AT w wr [] v (L ++ lenR (8 * n) ln (ln - q)))) (fun _ iv _ => (RowKit.intOf iv + 1).toNat)
      case atStart => exact ⟨ln, Nat.le_refl _, by go_num, by rw [Nat.sub_self, show lenR (8 * n) ln 0 = [] from rfl, List.append_nil]; exact HF⟩
      case round =>
        obtain ⟨q, hq, rfl, hF⟩ := hrel
        clear HF
        cases q with
        | zero =>
          have hd : decide ((0 : Int) ≤ ((0 : Nat) : Int) - 1) = false := by decide
          rw [Nat.sub_zero, ← PR.out] at hF
          have HP := hF
          obtain ⟨A9, c9, hv9, hc9, hr9⟩ := hF.out.own.reads
          subst hv9
          obtain ⟨y, hy⟩ : ∃ y, y = padR l bk ln := ⟨_, rfl⟩
          rw [← hy] at HP hc9 hr9 ⊢
          have R9 := Lib.hid hr9
          have C9 := Lib.hid hc9
          have HY := Lib.hid hy
          clear hF hr9 hc9 hy
          go_wp2
          go_ret
          show PadPost (padR l bk ln) w (.returned (.slice A9 y.length c9)) wr
          rw [← HY.out]
          exact ⟨A9, c9, rfl, C9.out, R9.out, HP.out.bk.below, fun ad e => (HP.out.own.lt ad.block (by rw [e]; rfl)).1⟩
        | succ p =>
          have hp : ((p + 1 : Nat) : Int) - 1 = (p : Int) := by omega
          rw [hp]
          have p0 : (0 : Int) ≤ (p : Int) := by omega
          have p1 : (p : Int) ≤ 1000 := by omega
          by_cases h8 : 8 ≤ p
          · have h8i : (8 : Int) ≤ (p : Int) := by omega
            have SU : Hid (L ++ lenR (8 * n) ln (ln - (p + 1)) ++ [0] = L ++ lenR (8 * n) ln (ln - p)) := by
              show _ = _
              rw [show ln - p = ln - (p + 1) + 1 by omega, lenR_succ, List.append_assoc]
              unfold lenAt
              rw [if_pos (by omega)]
            have MB : Hid ((L ++ lenR (8 * n) ln (ln - (p + 1))).length + 1 ≤ 140737488355328) := by
              show _ ≤ _
              have := HM.out
              have := BM.out
              rw [List.length_append]
              simp only [lenR, List.length_map, List.length_range]
              omega
            have HQ := Lib.hid hq
            have HF := hF
            clear hF hq h8
            have T0 : Hid True := trivial
            go_wp2_with (first
              | (have hx_ := T0; refine s_byteT HF.out rfl rfl 0 rfl ?_; clear hx_ T0; intro w5 b5 h1; have F5 := Lib.hid h1; clear h1 HF; have T1 : Hid True := trivial)
              | (have hx_ := T1; refine s_appB F5.out rfl rfl rfl rfl (F5.out.reads0 rfl) MB.out ?_; clear hx_ T1; intro v6 w6 h1; have F6 := Lib.hid h1.drop; clear h1 F5))
            go_roundw
            case rel => exact ⟨p, Nat.le_of_succ_le HQ.out, by go_num, by rw [← SU.out]; exact F6.out⟩
            case measure => simp [RowKit.intOf]
          · have h8d : decide ((8 : Int) ≤ (p : Int)) = false := decide_eq_false (by omega)
            have h8i : (p : Int) < 8 := by omega
            have BV : Hid ((n : Int) * 8 / 2 ^ (8 * p) % 256 = ((lenAt (8 * n) ln (ln - (p + 1))).toNat : Int)) := by
              show _ = _
              unfold lenAt
              rw [if_neg (by omega), show ln - 1 - (ln - (p + 1)) = p by omega, UInt8.toNat_ofNat']
              have e : (n : Int) * 8 = ((8 * n : Nat) : Int) := by omega
              rw [e]
              generalize 8 * n = b
              have e2 : ((2 : Int) ^ (8 * p)) = ((2 ^ (8 * p) : Nat) : Int) := by rw [Int.natCast_pow]; rfl
              rw [e2]
              rfl
            obtain ⟨u, hu⟩ : ∃ u, u = lenAt (8 * n) ln (ln - (p + 1)) := ⟨_, rfl⟩
            rw [← hu] at BV
            have SU : Hid (L ++ lenR (8 * n) ln (ln - (p + 1)) ++ [u] = L ++ lenR (8 * n) ln (ln - p)) := by
              show _ = _
              rw [show ln - p = ln - (p + 1) + 1 by omega, lenR_succ, List.append_assoc, hu]
            have MB : Hid ((L ++ lenR (8 * n) ln (ln - (p + 1))).length + 1 ≤ 140737488355328) := by
              show _ ≤ _
              have := HM.out
              have := BM.out
              rw [List.length_append]
              simp only [lenR, List.length_map, List.length_range]
              omega
            have HQ := Lib.hid hq
            have HF := hF
            clear hF hq h8 hu
            have T0 : Hid True := trivial
            go_wp2_with (first
              | (have hx_ := T0; refine s_byteT HF.out rfl rfl u (congrArg (Value.int .u8) BV.out) ?_; clear hx_ T0; intro w5 b5 h1; have F5 := Lib.hid h1; clear h1 HF; have T1 : Hid True := trivial)
              | (have hx_ := T1; refine s_appB F5.out rfl rfl rfl rfl (F5.out.reads0 rfl) MB.out ?_; clear hx_ T1; intro v6 w6 h1; have F6 := Lib.hid h1.drop; clear h1 F5))
            go_roundw
            case rel => exact ⟨p, Nat.le_of_succ_le HQ.out, by go_num, by rw [← SU.out]; exact F6.out⟩
            case measure => simp [RowKit.intOf]
    · have hm : (((M : Int) + (ln : Int)) % (bk : Int) != 0) = true := by
        rw [e]
        have := mt i1.1 hkz
        simp only [bne_iff_ne, ne_eq]
        omega
      have HLT : Hid (k + 1 ≤ z) := by show _ ≤ _; omega
      have SU : Hid (L ++ [0] = base ++ List.replicate (k + 1) 0) := by show _ = _; rw [HL2.out, List.append_assoc, ← List.replicate_succ']
      have MB : Hid (L.length + 1 ≤ 140737488355328) := by show _ ≤ _; rw [← HM.out]; omega
      clear e i1 hk hkz
      have T0 : Hid True := trivial
      go_wp2_with (first
        | (have hx_ := T0; refine s_byteT HF.out rfl rfl 0 rfl ?_; clear hx_ T0; intro w5 b5 h1; have F5 := Lib.hid h1; clear h1 HF; have T1 : Hid True := trivial)
        | (have hx_ := T1; refine s_appB F5.out rfl rfl rfl rfl (F5.out.reads0 rfl) MB.out ?_; clear hx_ T1; intro v6 w6 h1; have F6 := Lib.hid h1.drop; clear h1 F5))
      go_roundw
      case rel => exact ⟨k + 1, HLT.out, by rw [← SU.out]; exact F6.out⟩
      case measure =>
        obtain ⟨A6, c6, hv6, _, _⟩ := F6.out.own.reads
        subst hv6
        have := HLL.out
        have := HM.out
        have := HLT.out
        simp only [List.length_append, List.length_singleton]
        omega
end Go.Proofs.YtnhdepmalejclaaGreatDoor

namespace Go.Proofs.YtnhdepmalejclaaGreatDoor
open Go.RowKit Go.Lib
/-- The blocks bs, and a slice of the call's own that holds l. -/
structure AB (w0 w : World) (bs : List (Nat × Array Value × TypeId)) (v : Value) (l : List UInt8) : Prop where
  bk : BK w0 w bs
  own : Own8 w w0.heap.size v l
  fresh : ∀ b, v.ownBlock = some b → b ∉ bs.map (·.1)
theorem AB.start {w0 w : World} {bs : List (Nat × Array Value × TypeId)} (h : BK w0 w bs) : AB w0 w bs (.slice none 0 0) [] := ⟨h, own8_nil _ _, fun _ e => by cases e⟩
theorem AB.later {w0 w w' : World} {bs : List (Nat × Array Value × TypeId)} {v : Value} {l : List UInt8} (h : AB w0 w bs v l) (hb : Below w.heap.size w w') : AB w0 w' bs v l := ⟨h.bk.later hb, own8_below h.own hb, h.fresh⟩
theorem AB.grown {w0 w w' : World} {bs : List (Nat × Array Value × TypeId)} {v v' : Value} {l l' : List UInt8} (h : AB w0 w bs v l) (ho : Own8 w' w0.heap.size v' l') (hg : w.grownBy w' v.ownBlock) (hx : v'.ownBlock = v.ownBlock ∨ v'.ownBlock = some w.heap.size) : AB w0 w' bs v' l' := by
  refine ⟨⟨below_own8 h.bk.below h.own hg, h.bk.nodup, h.bk.own, fun e he => ?_⟩, ho, fun b hb hm => ?_⟩
  · refine (hg.block e.1 (lt_of_heap (h.bk.row e he)) (fun e1 => ?_)).trans (h.bk.row e he)
    exact h.fresh e.1 e1.symm (List.mem_map.2 ⟨e, he, rfl⟩)
  · rcases hx with hx | hx
    · exact h.fresh b (hx ▸ hb) hm
    · rw [hx] at hb
      cases hb
      exact h.bk.not_new (Nat.le_refl _) hm
/-- A new block. -/
theorem AB.mk' {w0 w w' : World} {bs bs' : List (Nat × Array Value × TypeId)} {v : Value} {l : List UInt8} (h : AB w0 w bs v l) (hb : Below w.heap.size w w') (hB : BK w0 w' bs') (hn : ∀ x ∈ bs'.map (·.1), x ∈ bs.map (·.1) ∨ w.heap.size ≤ x) : AB w0 w' bs' v l :=
  ⟨hB, own8_below h.own hb, fun b hb' hm => (hn b hm).elim (h.fresh b hb') (fun h1 => by have := (own8_lt h.own b hb').2; omega)⟩
section
variable {ops : Array Oper} {rest : List Oper} {o : Oper} {a : Act} {w0 w : World} {Q : Exit → Act → World → Prop} {bs : List (Nat × Array Value × TypeId)}
theorem s_app8 {v : Value} {l : List UInt8} (F : AB w0 w bs v l) (hg : o.guard = none) {s x : Operand} (ho : o.op = .call { callee := .builtin .append, args := #[s, x], argTypes := #[108, 108] }) {B m c : Nat} {A : Option Addr} {news : List UInt8}
    (hs : a.eval s = v) (hx : a.eval x = .slice A m c) (hr : Reads w B 1 A m (bvs news)) (hbytes : l.length + m ≤ 140737488355328)
    (h : ∀ v' w', AB w0 w' bs v' (l ++ news) → wpList Tryz.prog ops Q rest (a.put o.dst v') w') : wpList Tryz.prog ops Q (o :: rest) a w :=
  app8 hg ho hs hx F.own hr hbytes F.bk.below.size (fun v' w' h1 h2 h3 => h v' w' (F.grown h1 h2 h3))
end
end Go.Proofs.YtnhdepmalejclaaGreatDoor

namespace Go.Proofs.YtnhdepmalejclaaGreatDoor
open Go.RowKit Go.Lib
def hashF (K : List Int) (ls : List (List UInt8)) : List UInt8 := Sc.toB (Sc.leN (sum512F K ls.flatten) % Sc.ordN)
theorem hashF_len (K : List Int) (ls : List (List UInt8)) : (hashF K ls).length = 32 := Sc.toB_length _
theorem flat_take {ls : List (List UInt8)} {k : Nat} (hk : k < ls.length) : (ls.take (k + 1)).flatten = (ls.take k).flatten ++ ls[k] := by
  rw [List.take_add_one, List.getElem?_eq_getElem hk, Option.toList_some, List.flatten_append, List.flatten_cons, List.flatten_nil, List.append_nil]
theorem flat_le (ls : List (List UInt8)) (k : Nat) : (ls.take k).flatten.length ≤ ls.flatten.length := by
  conv => rhs; rw [← List.take_append_drop k ls, List.flatten_append, List.length_append]
  omega
set_option maxRecDepth 100000 in
set_option maxHeartbeats 2000000 in
theorem Hash_any (Kt Kq : List Int) (A : Option Addr) (n c : Nat) (ls : List (List UInt8)) (hn : ls.length = n) (hn9 : n ≤ 1000) (w : World) (hw : NW w Kt Kq) (hL : Lists w w.heap.size A ls) (h1 : 0 < ls.flatten.length % 128) (h2 : ls.flatten.length ≤ 1000000) : Calls Tryz.prog 85 #[.slice A n c] w (BRet (hashF Kq ls) w) := by
  have F0 := Lib.hid (BK.start w)
  have T0 : Hid True := trivial
  have hn9' : (n : Int) ≤ 1000 := by omega
  have HW := Lib.hid hw
  have HLS := Lib.hid hL
  have HN := Lib.hid hn
  have HM := Lib.hid h1
  have HZ := Lib.hid h2
  obtain ⟨h, hh⟩ : ∃ h, h = sum512F Kq ls.flatten := ⟨_, rfl⟩
  have Hh : Hid (h.length = 64) := by show _ = _; rw [hh]; exact sum512F_len _ _
  obtain ⟨l, hl⟩ : ∃ l, l = Sc.toB (Sc.leN h % Sc.ordN) := ⟨_, rfl⟩
  have Hl : Hid (l.length = 32) := by show _ = _; rw [hl]; exact Sc.toB_length _
  have HR : Hid (hashF Kq ls = l) := by show _ = _; rw [hl, hh]; rfl
  have HH := Lib.hid hh
  have HLL := Lib.hid hl
  rw [HR.out]
  clear hw hL h1 h2 hh hl hn HR
  go_enter Tryz.func85, Tryz.ntmps85
  go_wp2_with (have hx_ := T0; refine s_alloc F0.out rfl rfl zeroZ32 rfl ?_; clear hx_ T0; intro w1 b2 h1 _; have F1 := Lib.hid h1; clear h1 F0)
  go_loopw [3, 8] (fun v iv wr => ∃ k : Nat, k ≤ n ∧ iv = .int .i64 (k : Int) ∧ Hid (AB w wr [(b2, (bvs (List.replicate 32 0)).toArray, 25)] v (ls.take k).flatten)) (fun _ i _ => n - (Go.RowKit.intOf i).toNat)
  case atStart => exact ⟨0, Nat.zero_le _, rfl, AB.start F1.out⟩
  case round =>
    obtain ⟨k, hk, rfl, hF⟩ := hrel
    clear F1
    by_cases hlt : k < n
    · have hlt' : (k : Int) < (n : Int) := by omega
      have hk0 : (0 : Int) ≤ (k : Int) := by omega
      obtain ⟨x, b, off, A', c', hx, rfl, hb, hcell, hle, hr⟩ := HLS.out.at_ k (by rw [HN.out]; exact hlt)
      have cc := (hF.out.bk.below.cell (p := ⟨b, off + k, none⟩) hb).trans hcell
      have HX : Hid ((ls.take (k + 1)).flatten = (ls.take k).flatten ++ x) := by show _ = _; rw [flat_take (by rw [HN.out]; exact hlt), hx.out]
      have HRX := Lib.hid (hr.below hF.out.bk.below)
      have HK := Lib.hid hlt
      have HB : Hid ((ls.take k).flatten.length + x.length ≤ 140737488355328) := by
        show _ ≤ _
        have h3 := flat_le ls (k + 1)
        rw [HX.out, List.length_append] at h3
        have := HZ.out
        omega
      clear hx hb hcell hle hr hlt hk
      go_wp2_with (refine s_app8 hF.out rfl rfl rfl rfl HRX.out HB.out ?_; intro v' w2 h1; rw [← HX.out] at h1; have F2 := Lib.hid h1; clear h1 hF cc)
      go_roundw
      case rel => exact ⟨k + 1, HK.out, by go_num, F2.out⟩
      case measure => simp [Go.RowKit.intOf]; have := HK.out; omega
    · obtain rfl : k = n := by omega
      have hd : decide ((k : Int) < (k : Int)) = false := by simp
      rw [List.take_of_length_le (by rw [HN.out]; exact Nat.le_refl _)] at hF
      obtain ⟨A', c', rfl, hc', hr'⟩ := own8_form hF.out.own
      have HC := Lib.hid hc'
      have HRR := Lib.hid hr'
      have G := Lib.hid hF.out.bk
      obtain ⟨L, hLL⟩ : ∃ L, L = ls.flatten.length := ⟨_, rfl⟩
      rw [← hLL] at HC HRR HM HZ ⊢
      clear hc' hr' hF hLL hlt hk
      have T0 : Hid True := trivial
      go_wp2_with (first
        | (go_at_call 127; have hx_ := T0; refine (Sum512_any A' L c' Kq ls.flatten wr (HW.out.2.1.bel G.out.below) HRR.out HC.out HM.out HZ.out).mono ?_; clear hx_ T0; rintro e w3 ⟨rfl, hb⟩; rw [← HH.out]; have F3 := Lib.hid (G.out.later hb); clear hb G; have T1 : Hid True := trivial)
        | (go_at_call 128; have hx_ := T1; refine (Sc.Reduce_any h Hh.out w3 (HW.out.bel F3.out.below).2.2).mono ?_; clear hx_ T1; rintro e w4 ⟨rfl, hb⟩; rw [← HLL.out]; have F4 := Lib.hid (F3.out.later hb); clear hb F3; have T2 : Hid True := trivial)
        | (have hx_ := T2; refine s_store_b F4.out rfl rfl 0 rfl rfl l Hl.out rfl rfl ?_; clear hx_ T2; intro w5 h1; have F5 := Lib.hid h1; clear h1 F4))
      exact bodyPost_ret (v := .agg (bvs l).toArray) (by simp [results, Tryz.results85, asAddr]; exact ret32 Hl.out (F5.out.mem (i := 0) rfl)) rfl ⟨rfl, F5.out.below⟩
end Go.Proofs.YtnhdepmalejclaaGreatDoor
