/- The texts AT RS1 RS2 AB ED2 ED3 KR1 KR2 of this work, merged by wip/merge.py. No conditions. -/
import Derived.Test.YtbcpmnnlhdgbhaaGreatDoorQG23
import Derived.Test.YtbcpmnnlhdgbhaaGreatDoorQG14
import Derived.Test.YtbcpmnnlhdgbhaaGreatDoorQG01
import Derived.Test.YtbcpmnnlhdgbhaaGreatDoorQG21
namespace Go.Proofs.YtbcpmnnlhdgbhaaGreatDoor
open Go.RowKit Go.Lib
def OwnB (w : World) (base : Nat) (v : Value) (l : List UInt8) : Prop := (v = .slice none 0 0 ∧ l = []) ∨ OwnT w base v l
theorem OwnB.of8 {w : World} {base : Nat} {v : Value} {l : List UInt8} (h : Own8 w base v l) : OwnB w base v l := by
  obtain ⟨hl, ⟨h1, h2⟩ | ⟨g, cap, cur, h1, h2, h3, h4, h5, h6, h7⟩⟩ := h
  · exact .inl ⟨h1, List.length_eq_zero_iff.1 h2⟩
  · exact .inr ⟨g, cap, cur, (0, 0), h1, h2, h3, .inl rfl, h4, h5, by rw [h6, Nat.mul_one], by rw [Nat.mul_one] at h7; exact h7⟩
theorem OwnT.keep {w w' : World} {base : Nat} {v : Value} {l : List UInt8} (h : OwnT w base v l) (hk : ∀ g, v.ownBlock = some g → w'.heap[g]? = w.heap[g]?) : OwnT w' base v l := by
  obtain ⟨g, cap, cur, fz, rfl, hb, hg, h2⟩ := h
  exact ⟨g, cap, cur, fz, rfl, hb, (hk g rfl).trans hg, h2⟩
theorem OwnB.lt {w : World} {base : Nat} {v : Value} {l : List UInt8} (h : OwnB w base v l) : ∀ k, v.ownBlock = some k → base ≤ k ∧ k < w.heap.size := by
  rcases h with ⟨rfl, _⟩ | ⟨g, cap, cur, fz, rfl, hb, hg, _⟩
  · intro k hk; cases hk
  · intro k hk; cases hk; exact ⟨hb, lt_of_some hg⟩
theorem OwnB.later {w w' : World} {base : Nat} {v : Value} {l : List UInt8} (h : OwnB w base v l) (hb : Below w.heap.size w w') : OwnB w' base v l := by
  rcases h with h | h
  · exact .inl h
  · refine .inr (h.keep fun g hg => hb.block g ?_)
    exact (OwnB.lt (.inr h) g hg).2
theorem OwnB.reads {w : World} {base : Nat} {v : Value} {l : List UInt8} (h : OwnB w base v l) : ∃ A c, v = .slice A l.length c ∧ l.length ≤ c ∧ Reads w w.heap.size 1 A l.length (bvs l) := by
  rcases h with ⟨rfl, rfl⟩ | h
  · exact ⟨none, 0, rfl, Nat.le_refl _, Reads.none_⟩
  · have h2 := h
    obtain ⟨g, cap, hv, _, hr⟩ := h.reads
    obtain ⟨g', cap', cur, fz, hv', _, _, _, hl, _⟩ := h2
    rw [hv'] at hv
    cases hv
    exact ⟨_, _, hv', hl, hr⟩
/-- The blocks bs, and a slice of the call's own that holds l. -/
structure AT (w0 w : World) (bs : List (Nat × Array Value × TypeId)) (v : Value) (l : List UInt8) : Prop where
  bk : BK w0 w bs
  own : OwnB w w0.heap.size v l
  fresh : ∀ b, v.ownBlock = some b → b ∉ bs.map (·.1)
theorem AT.start {w0 w : World} {bs : List (Nat × Array Value × TypeId)} (h : BK w0 w bs) : AT w0 w bs (.slice none 0 0) [] := ⟨h, .inl ⟨rfl, rfl⟩, fun _ e => by cases e⟩
theorem AT.later {w0 w w' : World} {bs : List (Nat × Array Value × TypeId)} {v : Value} {l : List UInt8} (h : AT w0 w bs v l) (hb : Below w.heap.size w w') : AT w0 w' bs v l := ⟨h.bk.later hb, h.own.later hb, h.fresh⟩
theorem AT.grown {w0 w w' : World} {bs : List (Nat × Array Value × TypeId)} {v v' : Value} {l l' : List UInt8} (h : AT w0 w bs v l) (ho : OwnB w' w0.heap.size v' l') (hg : w.grownBy w' v.ownBlock) (hx : v'.ownBlock = v.ownBlock ∨ v'.ownBlock = some w.heap.size) : AT w0 w' bs v' l' := by
  refine ⟨⟨h.bk.below.grown hg h.bk.below.size (fun k hk => (h.own.lt k hk).1), h.bk.nodup, h.bk.own, fun e he => ?_⟩, ho, fun b hb hm => ?_⟩
  · refine (hg.block e.1 (lt_of_heap (h.bk.row e he)) (fun e1 => ?_)).trans (h.bk.row e he)
    exact h.fresh e.1 e1.symm (List.mem_map.2 ⟨e, he, rfl⟩)
  · rcases hx with hx | hx
    · exact h.fresh b (hx ▸ hb) hm
    · rw [hx] at hb
      cases hb
      exact h.bk.not_new (Nat.le_refl _) hm
section
variable {ops : Array Oper} {rest : List Oper} {o : Oper} {a : Act} {w0 w : World} {Q : Exit → Act → World → Prop} {bs : List (Nat × Array Value × TypeId)}
theorem s_appB {v : Value} {l : List UInt8} (F : AT w0 w bs v l) (hg : o.guard = none) {s x : Operand} (ho : o.op = .call { callee := .builtin .append, args := #[s, x], argTypes := #[96, 96] }) {B m c : Nat} {A : Option Addr} {news : List UInt8}
    (hs : a.eval s = v) (hx : a.eval x = .slice A m c) (hr : Reads w B 1 A m (bvs news)) (hbytes : l.length + m ≤ 140737488355328)
    (h : ∀ v' w', AT w0 w' bs v' (l ++ news) → wpList Tryz.prog ops Q rest (a.put o.dst v') w') : wpList Tryz.prog ops Q (o :: rest) a w := by
  rcases F.own with ⟨rfl, rfl⟩ | hT
  · exact app8 hg ho hs hx (own8_nil w w0.heap.size) hr hbytes F.bk.below.size (fun v' w' h1 h2 h3 => h v' w' (F.grown (OwnB.of8 h1) h2 h3))
  · exact appT hg ho hs hx hT hr hbytes F.bk.below.size (fun v' w' h1 h2 h3 => h v' w' (F.grown (.inr h1) h2 h3))
/-- A string's bytes, made anew. -/
theorem s_conv (F : BK w0 w bs) (hg : o.guard = none) {x : Operand} (ho : o.op = .convert 9 96 x) (l : List UInt8) (hx : a.eval x = .string ⟨l.toArray⟩) (hl : l.length ≤ maxLen)
    (h : ∀ v w', AT w0 w' bs v l → wpList Tryz.prog ops Q rest (a.put o.dst v) w') : wpList Tryz.prog ops Q (o :: rest) a w := by
  refine wpList_plain hg fun _ hK => ?_
  have hBW : Below w.heap.size w (Lib.bytesWorld w 5 ⟨l.toArray⟩) := by
    refine ⟨?_, ?_, ?_, by rw [Lib.bytesWorld_size]; omega, fun k hk => Lib.bytesWorld_at_old w _ _ k hk⟩
    all_goals (unfold Lib.bytesWorld World.freeze; rw [if_neg (by decide)]; rfl)
  have hconv := Lib.run_convert_string_bytes (P := Tryz.prog) w 9 96 5 ⟨l.toArray⟩ (u := .string) Tryz.underlying9 Tryz.underlying96 Tryz.underlying5
  unfold Oper.wp execOp
  simp only [ho, hx, hconv, Sem.run_bind, Sem.run_pure, Result.andThen_ok]
  refine hK _ _ (h _ _ ?_)
  have hT := ownT_bytes w l hl
  have hT' : OwnB (Lib.bytesWorld w 5 ⟨l.toArray⟩) w0.heap.size (.slice (some ⟨w.heap.size, 0, none⟩) (⟨l.toArray⟩ : ByteArray).size (grownCap w (⟨l.toArray⟩ : ByteArray).size 0 5)) l := by
    obtain ⟨g, cap, cur, fz, h1, h2, h3⟩ := hT
    exact .inr ⟨g, cap, cur, fz, h1, by have := F.below.size; omega, h3⟩
  refine ⟨F.later hBW, hT', fun b hb hm => ?_⟩
  cases hb
  exact F.not_new (Nat.le_refl _) hm
end
end Go.Proofs.YtbcpmnnlhdgbhaaGreatDoor

namespace Go.Proofs.YtbcpmnnlhdgbhaaGreatDoor
open Go.RowKit Go.Lib
section
variable {ops : Array Oper} {rest : List Oper} {o : Oper} {a : Act} {w0 w : World} {Q : Exit → Act → World → Prop} {bs : List (Nat × Array Value × TypeId)}
theorem AT.drop {v : Value} {l : List UInt8} {x : Nat × Array Value × TypeId} (F : AT w0 w (x :: bs) v l) : AT w0 w bs v l :=
  ⟨⟨F.bk.below, (List.nodup_cons.1 F.bk.nodup).2, fun e he => F.bk.own e (List.mem_cons_of_mem _ he), fun e he => F.bk.row e (List.mem_cons_of_mem _ he)⟩, F.own, fun b hb hm => F.fresh b hb (List.mem_cons_of_mem _ hm)⟩
end
end Go.Proofs.YtbcpmnnlhdgbhaaGreatDoor

namespace Go.Proofs.YtbcpmnnlhdgbhaaGreatDoor
open Go.RowKit Go.Lib
end Go.Proofs.YtbcpmnnlhdgbhaaGreatDoor

namespace Go.Proofs.YtbcpmnnlhdgbhaaGreatDoor
open Go.RowKit Go.Lib
/-- The blocks bs, and a slice of the call's own that holds l. -/
structure AB (w0 w : World) (bs : List (Nat × Array Value × TypeId)) (v : Value) (l : List UInt8) : Prop where
  bk : BK w0 w bs
  own : Own8 w w0.heap.size v l
  fresh : ∀ b, v.ownBlock = some b → b ∉ bs.map (·.1)
theorem AB.start {w0 w : World} {bs : List (Nat × Array Value × TypeId)} (h : BK w0 w bs) : AB w0 w bs (.slice none 0 0) [] := ⟨h, own8_nil _ _, fun _ e => by cases e⟩
theorem AB.later {w0 w w' : World} {bs : List (Nat × Array Value × TypeId)} {v : Value} {l : List UInt8} (h : AB w0 w bs v l) (hb : Below w.heap.size w w') : AB w0 w' bs v l := ⟨h.bk.later hb, own8_below h.own hb, h.fresh⟩
theorem AB.grown {w0 w w' : World} {bs : List (Nat × Array Value × TypeId)} {v v' : Value} {l l' : List UInt8} (h : AB w0 w bs v l) (ho : Own8 w' w0.heap.size v' l') (hg : w.grownBy w' v.ownBlock) (hx : v'.ownBlock = v.ownBlock ∨ v'.ownBlock = some w.heap.size) : AB w0 w' bs v' l' := by
  refine ⟨⟨below_own8 h.bk.below h.own hg, h.bk.nodup, h.bk.own, fun e he => ?_⟩, ho, fun b hb hm => ?_⟩
  · refine (hg.block e.1 (lt_of_heap (h.bk.row e he)) (fun e1 => ?_)).trans (h.bk.row e he)
    exact h.fresh e.1 e1.symm (List.mem_map.2 ⟨e, he, rfl⟩)
  · rcases hx with hx | hx
    · exact h.fresh b (hx ▸ hb) hm
    · rw [hx] at hb
      cases hb
      exact h.bk.not_new (Nat.le_refl _) hm
section
variable {ops : Array Oper} {rest : List Oper} {o : Oper} {a : Act} {w0 w : World} {Q : Exit → Act → World → Prop} {bs : List (Nat × Array Value × TypeId)}
theorem s_app8 {v : Value} {l : List UInt8} (F : AB w0 w bs v l) (hg : o.guard = none) {s x : Operand} (ho : o.op = .call { callee := .builtin .append, args := #[s, x], argTypes := #[96, 96] }) {B m c : Nat} {A : Option Addr} {news : List UInt8}
    (hs : a.eval s = v) (hx : a.eval x = .slice A m c) (hr : Reads w B 1 A m (bvs news)) (hbytes : l.length + m ≤ 140737488355328)
    (h : ∀ v' w', AB w0 w' bs v' (l ++ news) → wpList Tryz.prog ops Q rest (a.put o.dst v') w') : wpList Tryz.prog ops Q (o :: rest) a w :=
  app8 hg ho hs hx F.own hr hbytes F.bk.below.size (fun v' w' h1 h2 h3 => h v' w' (F.grown h1 h2 h3))
end
end Go.Proofs.YtbcpmnnlhdgbhaaGreatDoor

namespace Go.Proofs.YtbcpmnnlhdgbhaaGreatDoor
open Go.RowKit Go.Lib
def hashF (K : List Int) (ls : List (List UInt8)) : List UInt8 := Sc.toB (Sc.leN (sum512F K ls.flatten) % Sc.ordN)
theorem hashF_len (K : List Int) (ls : List (List UInt8)) : (hashF K ls).length = 32 := Sc.toB_length _
theorem flat_take {ls : List (List UInt8)} {k : Nat} (hk : k < ls.length) : (ls.take (k + 1)).flatten = (ls.take k).flatten ++ ls[k] := by
  rw [List.take_add_one, List.getElem?_eq_getElem hk, Option.toList_some, List.flatten_append, List.flatten_cons, List.flatten_nil, List.append_nil]
theorem flat_le (ls : List (List UInt8)) (k : Nat) : (ls.take k).flatten.length ≤ ls.flatten.length := by
  conv => rhs; rw [← List.take_append_drop k ls, List.flatten_append, List.length_append]
  omega
set_option maxRecDepth 100000 in
set_option maxHeartbeats 2000000 in
theorem Hash_any (Kt Kq : List Int) (A : Option Addr) (n c : Nat) (ls : List (List UInt8)) (hn : ls.length = n) (hn9 : n ≤ 1000) (w : World) (hw : NW w Kt Kq) (hL : Lists w w.heap.size A ls) (h1 : 0 < ls.flatten.length % 128) (h2 : ls.flatten.length ≤ 1000000) : Calls Tryz.prog 139 #[.slice A n c] w (BRet (hashF Kq ls) w) := by
  have F0 := Lib.hid (BK.start w)
  have T0 : Hid True := trivial
  have hn9' : (n : Int) ≤ 1000 := by omega
  have HW := Lib.hid hw
  have HLS := Lib.hid hL
  have HN := Lib.hid hn
  have HM := Lib.hid h1
  have HZ := Lib.hid h2
  obtain ⟨h, hh⟩ : ∃ h, h = sum512F Kq ls.flatten := ⟨_, rfl⟩
  have Hh : Hid (h.length = 64) := by show _ = _; rw [hh]; exact sum512F_len _ _
  obtain ⟨l, hl⟩ : ∃ l, l = Sc.toB (Sc.leN h % Sc.ordN) := ⟨_, rfl⟩
  have Hl : Hid (l.length = 32) := by show _ = _; rw [hl]; exact Sc.toB_length _
  have HR : Hid (hashF Kq ls = l) := by show _ = _; rw [hl, hh]; rfl
  have HH := Lib.hid hh
  have HLL := Lib.hid hl
  rw [HR.out]
  clear hw hL h1 h2 hh hl hn HR
  go_enter Tryz.func139, Tryz.ntmps139
  go_wp2_with (have hx_ := T0; refine s_alloc F0.out rfl rfl zeroZ32 rfl ?_; clear hx_ T0; intro w1 b2 h1 _; have F1 := Lib.hid h1; clear h1 F0)
  go_loopw [3, 8] (fun v iv wr => ∃ k : Nat, k ≤ n ∧ iv = .int .i64 (k : Int) ∧ Hid (AB w wr [(b2, (bvs (List.replicate 32 0)).toArray, 31)] v (ls.take k).flatten)) (fun _ i _ => n - (Go.RowKit.intOf i).toNat)
  case atStart => exact ⟨0, Nat.zero_le _, rfl, AB.start F1.out⟩
  case round =>
    obtain ⟨k, hk, rfl, hF⟩ := hrel
    clear F1
    by_cases hlt : k < n
    · have hlt' : (k : Int) < (n : Int) := by omega
      have hk0 : (0 : Int) ≤ (k : Int) := by omega
      obtain ⟨x, b, off, A', c', hx, rfl, hb, hcell, hle, hr⟩ := HLS.out.at_ k (by rw [HN.out]; exact hlt)
      have cc := (hF.out.bk.below.cell (p := ⟨b, off + k, none⟩) hb).trans hcell
      have HX : Hid ((ls.take (k + 1)).flatten = (ls.take k).flatten ++ x) := by show _ = _; rw [flat_take (by rw [HN.out]; exact hlt), hx.out]
      have HRX := Lib.hid (hr.below hF.out.bk.below)
      have HK := Lib.hid hlt
      have HB : Hid ((ls.take k).flatten.length + x.length ≤ 140737488355328) := by
        show _ ≤ _
        have h3 := flat_le ls (k + 1)
        rw [HX.out, List.length_append] at h3
        have := HZ.out
        omega
      clear hx hb hcell hle hr hlt hk
      go_wp2_with (refine s_app8 hF.out rfl rfl rfl rfl HRX.out HB.out ?_; intro v' w2 h1; rw [← HX.out] at h1; have F2 := Lib.hid h1; clear h1 hF cc)
      go_roundw
      case rel => exact ⟨k + 1, HK.out, by go_num, F2.out⟩
      case measure => simp [Go.RowKit.intOf]; have := HK.out; omega
    · obtain rfl : k = n := by omega
      have hd : decide ((k : Int) < (k : Int)) = false := by simp
      rw [List.take_of_length_le (by rw [HN.out]; exact Nat.le_refl _)] at hF
      obtain ⟨A', c', rfl, hc', hr'⟩ := own8_form hF.out.own
      have HC := Lib.hid hc'
      have HRR := Lib.hid hr'
      have G := Lib.hid hF.out.bk
      obtain ⟨L, hLL⟩ : ∃ L, L = ls.flatten.length := ⟨_, rfl⟩
      rw [← hLL] at HC HRR HM HZ ⊢
      clear hc' hr' hF hLL hlt hk
      have T0 : Hid True := trivial
      go_wp2_with (first
        | (go_at_call 176; have hx_ := T0; refine (Sum512_any A' L c' Kq ls.flatten wr (HW.out.2.1.bel G.out.below) HRR.out HC.out HM.out HZ.out).mono ?_; clear hx_ T0; rintro e w3 ⟨rfl, hb⟩; rw [← HH.out]; have F3 := Lib.hid (G.out.later hb); clear hb G; have T1 : Hid True := trivial)
        | (go_at_call 177; have hx_ := T1; refine (Sc.Reduce_any h Hh.out w3 (HW.out.bel F3.out.below).2.2).mono ?_; clear hx_ T1; rintro e w4 ⟨rfl, hb⟩; rw [← HLL.out]; have F4 := Lib.hid (F3.out.later hb); clear hb F3; have T2 : Hid True := trivial)
        | (have hx_ := T2; refine s_store_b F4.out rfl rfl 0 rfl rfl l Hl.out rfl rfl ?_; clear hx_ T2; intro w5 h1; have F5 := Lib.hid h1; clear h1 F4))
      exact bodyPost_ret (v := .agg (bvs l).toArray) (by simp [results, Tryz.results139, asAddr]; exact ret32 Hl.out (F5.out.mem (i := 0) rfl)) rfl ⟨rfl, F5.out.below⟩
end Go.Proofs.YtbcpmnnlhdgbhaaGreatDoor

namespace Go.Proofs.YtbcpmnnlhdgbhaaGreatDoor
open Go.RowKit Go.Lib
def signF (K : List Int) (seed m : List UInt8) : List UInt8 :=
  let r := hashF K [preF K seed, m]
  let k := hashF K [baseF r, pubF K seed, m]
  baseF r ++ Sc.toB ((Sc.leN k * Sc.leN (numF K seed) + Sc.leN r) % Sc.ordN)
theorem signF_len (K : List Int) (seed m : List UInt8) : (signF K seed m).length = 64 := by simp only [signF]; rw [List.length_append, baseF_len, Sc.toB_length]
theorem put_half {x : List UInt8} (hx : x.length = 32) : putPart (bvs (List.replicate 64 0)).toArray 0 (bvs x) = (bvs (x ++ List.replicate 32 0)).toArray := by
  have h := putPart_mid [] (bvs (List.replicate 32 0)) (bvs (List.replicate 32 0)) (bvs x) 0 rfl (by rw [bvs_length, bvs_length, hx, List.length_replicate])
  rw [bvs_append]
  exact h
theorem put_half2 {x y : List UInt8} (hx : x.length = 32) (hy : y.length = 32) : putPart (bvs (x ++ List.replicate 32 0)).toArray 32 (bvs y) = (bvs (x ++ y)).toArray := by
  have h := putPart_mid (bvs x) (bvs (List.replicate 32 0)) [] (bvs y) 32 (by rw [bvs_length, hx]) (by rw [bvs_length, bvs_length, hy, List.length_replicate])
  rw [bvs_append, bvs_append x y]
  simpa using h
set_option maxRecDepth 100000 in
set_option maxHeartbeats 2000000 in
theorem Sign_any (Kt Kq : List Int) (seed m : List UInt8) (hs : seed.length = 32) (A : Option Addr) (n c : Nat) (hn : m.length = n) (hc : n ≤ c) (h1 : 0 < (32 + n) % 128) (h2 : 0 < (64 + n) % 128) (h3 : n ≤ 900000) (w : World) (hw : NW w Kt Kq) (hr : Reads w w.heap.size 1 A n (bvs m)) :
    Calls Tryz.prog 105 #[.agg (bvs seed).toArray, .slice A n c] w (BRet (signF Kq seed m) w) := by
  have F0 := Lib.hid (BK.start w)
  have T0 : Hid True := trivial
  have HW := Lib.hid hw
  have HSD := Lib.hid hs
  have HN := Lib.hid hn
  have HC := Lib.hid hc
  have HM := Lib.hid hr
  have H1 := Lib.hid h1
  have H2 := Lib.hid h2
  have H3 := Lib.hid h3
  obtain ⟨nm, hnm⟩ : ∃ z, z = numF Kq seed := ⟨_, rfl⟩
  obtain ⟨pre, hpre⟩ : ∃ z, z = preF Kq seed := ⟨_, rfl⟩
  obtain ⟨pb, hpb⟩ : ∃ z, z = pubF Kq seed := ⟨_, rfl⟩
  obtain ⟨r, hr0⟩ : ∃ z, z = hashF Kq [pre, m] := ⟨_, rfl⟩
  obtain ⟨big, hbig⟩ : ∃ z, z = baseF r := ⟨_, rfl⟩
  obtain ⟨k, hk⟩ : ∃ z, z = hashF Kq [big, pb, m] := ⟨_, rfl⟩
  obtain ⟨s, hs0⟩ : ∃ z, z = Sc.toB ((Sc.leN k * Sc.leN nm + Sc.leN r) % Sc.ordN) := ⟨_, rfl⟩
  have HR : Hid (signF Kq seed m = big ++ s) := by show _ = _; rw [hs0, hk, hbig, hr0, hpb, hpre, hnm]; rfl
  rw [HR.out]
  have Lnm : Hid (nm.length = 32) := by show _ = _; rw [hnm]; exact numF_len _ _
  have Lpre : Hid (pre.length = 32) := by show _ = _; rw [hpre]; exact preF_len _ _
  have Lpb : Hid (pb.length = 32) := by show _ = _; rw [hpb]; exact pubF_len _ _
  have Lr : Hid (r.length = 32) := by show _ = _; rw [hr0]; exact hashF_len _ _
  have Lbig : Hid (big.length = 32) := by show _ = _; rw [hbig]; exact baseF_len _
  have Lk : Hid (k.length = 32) := by show _ = _; rw [hk]; exact hashF_len _ _
  have Ls : Hid (s.length = 32) := by show _ = _; rw [hs0]; exact Sc.toB_length _
  have C84 : Hid (∀ w', Below w.heap.size w w' → Calls Tryz.prog 138 #[.agg (bvs seed).toArray] w' (fun e w2 => e = .returned (.agg (bvs (nm ++ (pre ++ pb))).toArray) ∧ Below w'.heap.size w' w2)) := fun w' hb => by rw [hnm, hpre, hpb]; exact Expand_any Kt Kq seed hs w' (hw.bel hb)
  have CBR : Hid (∀ w', Calls Tryz.prog 140 #[.agg (bvs r).toArray] w' (fun e w2 => e = .returned (.agg (bvs big).toArray) ∧ Below w'.heap.size w' w2)) := fun w' => by rw [hbig]; exact Base_any r Lr.out w'
  have CH2 : Hid (∀ w' A', Below w.heap.size w w' → Lists w' w'.heap.size A' [pre, m] → Calls Tryz.prog 139 #[.slice A' 2 2] w' (fun e w2 => e = .returned (.agg (bvs r).toArray) ∧ Below w'.heap.size w' w2)) := fun w' A' hb hl => by
    rw [hr0]; exact Hash_any Kt Kq A' 2 2 [pre, m] rfl (by decide) w' (hw.bel hb) hl (by simp [Lpre.out, hn]; omega) (by simp [Lpre.out, hn]; omega)
  have CH3 : Hid (∀ w' A', Below w.heap.size w w' → Lists w' w'.heap.size A' [big, pb, m] → Calls Tryz.prog 139 #[.slice A' 3 3] w' (fun e w2 => e = .returned (.agg (bvs k).toArray) ∧ Below w'.heap.size w' w2)) := fun w' A' hb hl => by
    rw [hk]; exact Hash_any Kt Kq A' 3 3 [big, pb, m] rfl (by decide) w' (hw.bel hb) hl (by simp [Lbig.out, Lpb.out, hn]; omega) (by simp [Lbig.out, Lpb.out, hn]; omega)
  have CMA : Hid (∀ w', Below w.heap.size w w' → Calls Tryz.prog 141 #[.agg (bvs k).toArray, .agg (bvs nm).toArray, .agg (bvs r).toArray] w' (fun e w2 => e = .returned (.agg (bvs s).toArray) ∧ Below w'.heap.size w' w2)) := fun w' hb => by
    rw [hs0]; exact Sc.MulAdd_any k nm r Lk.out Lnm.out Lr.out w' (hw.bel hb).2.2
  clear hw hs hn hc hr h1 h2 h3 hnm hpre hpb hr0 hbig hk hs0 HR
  have q1 := slAll32
  have q2 := slH64_32
  have q3 := sl64_32
  go_enter Tryz.func105, Tryz.ntmps105
  go_wp2_with (first
    | (have hx_ := T0; refine s_box F0.out rfl rfl rfl rfl ?_; clear hx_ T0; intro w1 b1 h1 _; have F1 := Lib.hid h1; clear h1 F0; have T1 : Hid True := trivial)
    | (have hx_ := T1; refine s_alloc F1.out rfl rfl zeroB64 rfl ?_; clear hx_ T1; intro w2 b2 h1 _; have F2 := Lib.hid h1; clear h1 F1; have T2 : Hid True := trivial)
    | (have hx_ := T2; refine s_load_b rfl rfl seed HSD.out rfl (F2.out.lb 1 rfl) ?_; clear hx_ T2; have T3 : Hid True := trivial)
    | (go_at_call 138; have hx_ := T3; refine (C84.out _ F2.out.below).mono ?_; clear hx_ T3; rintro e w3 ⟨rfl, hb⟩; have F3 := Lib.hid (F2.out.later hb); clear hb F2; have T4 : Hid True := trivial)
    | (have hx_ := T4; refine s_alloc F3.out rfl rfl zeroSec rfl ?_; clear hx_ T4; intro w4 b3 h1 _; have F4 := Lib.hid h1; clear h1 F3; have T5 : Hid True := trivial)
    | (have hx_ := T5; refine s_store F4.out rfl rfl 0 rfl rfl (bvs (nm ++ (pre ++ pb))).toArray rfl (by rw [bvs_size, bvs_size, List.length_append, List.length_append, Lnm.out, Lpre.out, Lpb.out, List.length_replicate]) (by rw [bvs_size, List.length_append, List.length_append, Lnm.out, Lpre.out, Lpb.out]; kernel_rfl) (bvs_cells _) ?_; clear hx_ T5; intro w5 h1; have F5 := Lib.hid h1; clear h1 F4; have T6 : Hid True := trivial)
    | (have hx_ := T6; refine s_rows2 F5.out rfl rfl rfl rfl ?_; clear hx_ T6; intro w6 b4 h1 _; have F6 := Lib.hid h1; clear h1 F5; have T7 : Hid True := trivial)
    | (go_at_call 139; have hx_ := T7; refine (CH2.out _ _ F6.out.below (lists2 (F6.out.mem (i := 0) rfl) Lpre.out HN.out (by decide) HC.out (F6.out.reads 1 rfl 32 32 pre Lpre.out (fun j hj => by rw [List.getElem?_toArray, bvs_append, List.getElem?_append_right (by rw [bvs_length, Lnm.out]; omega), bvs_length, Lnm.out, Nat.add_sub_cancel_left, bvs_append, List.getElem?_append_left (by rw [bvs_length, Lpre.out]; exact hj)])) ((HM.out.below F6.out.below).more F6.out.below.size))).mono ?_; clear hx_ T7; rintro e w7 ⟨rfl, hb⟩; have F7 := Lib.hid (F6.out.later hb); clear hb F6; have T8 : Hid True := trivial)
    | (have hx_ := T8; refine s_alloc F7.out rfl rfl zeroB32 rfl ?_; clear hx_ T8; intro w8 b5 h1 _; have F8 := Lib.hid h1; clear h1 F7; have T9 : Hid True := trivial)
    | (have hx_ := T9; refine s_store_b F8.out rfl rfl 0 rfl rfl r Lr.out rfl rfl ?_; clear hx_ T9; intro w9 h1; have F9 := Lib.hid h1; clear h1 F8; have T10 : Hid True := trivial)
    | (have hx_ := T10; refine s_load_b rfl rfl r Lr.out rfl (F9.out.lb 0 rfl) ?_; clear hx_ T10; have T11 : Hid True := trivial)
    | (go_at_call 140; have hx_ := T11; refine (CBR.out _).mono ?_; clear hx_ T11; rintro e w10 ⟨rfl, hb⟩; have F10 := Lib.hid (F9.out.later hb); clear hb F9; have T12 : Hid True := trivial)
    | (have hx_ := T12; refine s_alloc F10.out rfl rfl zeroB32 rfl ?_; clear hx_ T12; intro w11 b6 h1 _; have F11 := Lib.hid h1; clear h1 F10; have T13 : Hid True := trivial)
    | (have hx_ := T13; refine s_store_b F11.out rfl rfl 0 rfl rfl big Lbig.out rfl rfl ?_; clear hx_ T13; intro w12 h1; have F12 := Lib.hid h1; clear h1 F11))
  refine wp_region_rg' 11 [none, none, none, none, some (Tell.row 3 (fun xs => xs.toArray) 96), some (Tell.is (.agg (bvs k).toArray)), none, none, none, some (Tell.is (.agg (bvs s).toArray)), some (Tell.block (bvs (List.replicate 32 0)).toArray 31)] (by kernel_rfl) rfl (by kernel_rfl) ⟨Tell.row_good _ _ _, Tell.is_good _, Tell.is_good _, Tell.block_good _ _, trivial⟩ ?_
  simp only [List.take_succ_cons, List.take_zero, List.zip_cons_cons, List.zip_nil_right]
  try simp only [Act.put]
  try simp only [List.setIfInBounds_toArray, List.set_cons_succ, List.set_cons_zero]
  refine rg_e rfl fun N hNe => ?_
  go_big_quiet_step (fail)
  refine wpQuiet_nil ?_
  refine rg_e rfl fun N hNe => ?_
  go_big_quiet_step (fail)
  refine wpQuiet_nil ?_
  refine rg_e rfl fun N hNe => ?_
  go_big_quiet_step (fail)
  refine wpQuiet_nil ?_
  refine rg_e rfl fun N hNe => ?_
  go_big_quiet_step (fail)
  refine wpQuiet_nil ?_
  refine rg_rows3 rfl rfl rfl rfl rfl ?_
  intro b7
  try simp only [Act.put]
  try simp only [List.setIfInBounds_toArray, List.set_cons_succ, List.set_cons_zero]
  refine rg_call 139 _ rfl (vs := [.slice (some ⟨b7, 0, none⟩) 3 3]) rfl (fun _ _ => rfl) (v := .agg (bvs k).toArray) (fun w' hb ht => ?_) ?_
  · have G := F12.out.later hb
    have hB : (fun w : World => w.heap[b7]? = some (.cells #[.slice (some ⟨b6, 0, none⟩) 32 32, .slice (some ⟨b3, 64, none⟩) 32 32, .slice A n c] 96 (0, 0))) w' := told_at ht 0 rfl (by kernel_rfl)
    exact CH3.out w' _ G.below (lists3 hB Lbig.out Lpb.out HN.out (by decide) (by decide) HC.out
      (G.reads 0 rfl 0 32 big Lbig.out (fun j _ => by rw [Nat.zero_add, List.getElem?_toArray]))
      (G.reads 3 rfl 64 32 pb Lpb.out (fun j hj => by rw [List.getElem?_toArray, bvs_append, List.getElem?_append_right (by rw [bvs_length, Lnm.out]; omega), bvs_length, Lnm.out, bvs_append, List.getElem?_append_right (by rw [bvs_length, Lpre.out]; omega), bvs_length, Lpre.out, show 64 + j - 32 - 32 = j by omega]))
      ((HM.out.below G.below).more G.below.size))
  try simp only [Act.put]
  try simp only [List.setIfInBounds_toArray, List.set_cons_succ, List.set_cons_zero]
  refine rg_e rfl fun N hNe => ?_
  go_big_quiet_step (fail)
  refine wpQuiet_nil ?_
  refine rg_load _ _ rfl b3 0 rfl (bvs nm).toArray (fun w' hb _ => rangeAt_part ((F12.out.later hb).mem (i := 3) rfl) 0 _ (fun j hj => by rw [Nat.zero_add, List.getElem?_toArray, bvs_append, List.getElem?_append_left hj])) Tryz.underlying31 rfl (by rw [bvs_size, Lnm.out]; kernel_rfl) ?_
  refine rg_load _ _ rfl b5 0 rfl (bvs r).toArray (fun w' hb _ => (F12.out.later hb).range 1 rfl) Tryz.underlying31 rfl (by rw [bvs_size, Lr.out]; kernel_rfl) ?_
  refine rg_call 141 _ rfl (vs := [.agg (bvs k).toArray, .agg (bvs nm).toArray, .agg (bvs r).toArray]) rfl (fun _ _ => rfl) (v := .agg (bvs s).toArray) (fun w' hb _ => CMA.out w' (F12.out.later hb).below) ?_
  refine rg_new (run_alloc rfl zeroB32) ?_
  intro b8
  intro w13 hb hfs hnd hown
  have hB8 : w13.heap[b8]? = some (.cells (bvs (List.replicate 32 0)).toArray 31 (0, 0)) := hfs _ (List.mem_of_getElem? (i := 3) rfl)
  have F13 := Lib.hid (F12.out.found hb (hown b8 (by simp)).1 hB8)
  clear hb hfs hnd hown hB8 F12
  simp only [List.drop_succ_cons, List.drop_zero]
  try simp only [Act.put]
  try simp only [List.setIfInBounds_toArray, List.set_cons_succ, List.set_cons_zero]
  have T0 : Hid True := trivial
  go_wp2_with (first
    | (have hx_ := T0; refine s_store_b F13.out rfl rfl 0 rfl rfl s Ls.out rfl rfl ?_; clear hx_ T0; intro w14 h1; have F14 := Lib.hid h1; clear h1 F13; have T1 : Hid True := trivial)
    | (have hx_ := T1; refine s_alloc F14.out rfl rfl zeroB64 rfl ?_; clear hx_ T1; intro w15 b9 h1 _; have F15 := Lib.hid h1; clear h1 F14))
  refine wp_quiet_tail 2 (by kernel_rfl) (by kernel_rfl) ?_
  simp only [List.take_succ_cons, List.take_zero, List.drop_succ_cons, List.drop_zero]
  try simp only [Act.put]
  try simp only [List.setIfInBounds_toArray, List.set_cons_succ, List.set_cons_zero]
  repeat (go_big_quiet_step (fail))
  refine wpQuiet_nil ?_
  have T0 : Hid True := trivial
  go_wp2_with (have hx_ := T0; refine s_copy F15.out.drew rfl rfl 0 rfl rfl rfl (F15.out.drew.reads 2 rfl 0 32 big Lbig.out (fun j _ => by rw [Nat.zero_add, List.getElem?_toArray])) Lbig.out (by rw [bvs_size, List.length_replicate]; decide) ?_; clear hx_ T0; intro w16 h1; simp only [List.set_cons_zero] at h1; rw [put_half Lbig.out] at h1; have F16 := Lib.hid h1; clear h1 F15)
  refine wp_quiet_tail 2 (by kernel_rfl) (by kernel_rfl) ?_
  simp only [List.take_succ_cons, List.take_zero, List.drop_succ_cons, List.drop_zero]
  try simp only [Act.put]
  try simp only [List.setIfInBounds_toArray, List.set_cons_succ, List.set_cons_zero]
  repeat (go_big_quiet_step (fail))
  refine wpQuiet_nil ?_
  have T0 : Hid True := trivial
  go_wp2_with (first
    | (have hx_ := T0; refine s_copy F16.out.drew rfl rfl 0 rfl rfl rfl (F16.out.drew.reads 1 rfl 0 32 s Ls.out (fun j _ => by rw [Nat.zero_add, List.getElem?_toArray])) Ls.out (by rw [bvs_size, List.length_append, Lbig.out, List.length_replicate]; decide) ?_; clear hx_ T0; intro w17 h1; simp only [List.set_cons_zero] at h1; rw [put_half2 Lbig.out Ls.out] at h1; have F17 := Lib.hid h1; clear h1 F16; have T1 : Hid True := trivial)
    | (have hx_ := T1; refine wpList_load_arr rfl _ _ rfl b9 0 rfl (bvs (big ++ s)).toArray _ (by with_reducible exact F17.out.range 0 rfl) Tryz.underlying32 rfl (by rw [bvs_size, List.length_append, Lbig.out, Ls.out]; kernel_rfl) ?_; clear hx_ T1; have T2 : Hid True := trivial)
    | (have hx_ := T2; refine s_store F17.out rfl rfl 6 rfl rfl (bvs (big ++ s)).toArray rfl (by rw [bvs_size, bvs_size, List.length_append, Lbig.out, Ls.out, List.length_replicate]) (by rw [bvs_size, List.length_append, Lbig.out, Ls.out]; kernel_rfl) (bvs_cells _) ?_; clear hx_ T2; intro w18 h1; have F18 := Lib.hid h1; clear h1 F17))
  have hl := ret64 (by rw [List.length_append, Lbig.out, Ls.out] ) (F18.out.mem (i := 6) rfl)
  exact bodyPost_ret (v := .agg (bvs (big ++ s)).toArray) (by simp [results, Tryz.results105, asAddr, Act.put, hl]) rfl ⟨rfl, F18.out.below⟩
end Go.Proofs.YtbcpmnnlhdgbhaaGreatDoor

namespace Go.Proofs.YtbcpmnnlhdgbhaaGreatDoor
open Go.RowKit Go.Lib
theorem field_pub (cs : Array Value) (w : World) : (Instr.field 247 (.agg cs) 2).run Tryz.prog w = .ok (.agg (cs.extract 64 (64 + 32))) w := by kernel_rfl
set_option maxRecDepth 100000 in
set_option maxHeartbeats 2000000 in
theorem EPublic_any (Kt Kq : List Int) (seed : List UInt8) (hs : seed.length = 32) (w : World) (hw : NW w Kt Kq) : Calls Tryz.prog 108 #[.agg (bvs seed).toArray] w (BRet (pubF Kq seed) w) := by
  have F0 := Lib.hid (BK.start w)
  have T0 : Hid True := trivial
  have HSD := Lib.hid hs
  obtain ⟨nm, hnm⟩ : ∃ z, z = numF Kq seed := ⟨_, rfl⟩
  obtain ⟨pre, hpre⟩ : ∃ z, z = preF Kq seed := ⟨_, rfl⟩
  obtain ⟨pb, hpb⟩ : ∃ z, z = pubF Kq seed := ⟨_, rfl⟩
  have Lnm : Hid (nm.length = 32) := by show _ = _; rw [hnm]; exact numF_len _ _
  have Lpre : Hid (pre.length = 32) := by show _ = _; rw [hpre]; exact preF_len _ _
  have Lpb : Hid (pb.length = 32) := by show _ = _; rw [hpb]; exact pubF_len _ _
  have HX : Hid ((bvs (nm ++ (pre ++ pb))).toArray.extract 64 (64 + 32) = (bvs pb).toArray) := by
    show _ = _
    rw [← List.append_assoc, bvs_append]
    have h := extract_mid (bvs (nm ++ pre)) (bvs pb) [] 64 32 (by have := Lnm.out; have := Lpre.out; rw [bvs_length, List.length_append]; omega) (by rw [bvs_length, Lpb.out])
    rw [List.append_nil] at h
    exact h
  have CE : Hid (∀ w', Below w.heap.size w w' → Calls Tryz.prog 138 #[.agg (bvs seed).toArray] w' (fun e w2 => e = .returned (.agg (bvs (nm ++ (pre ++ pb))).toArray) ∧ Below w'.heap.size w' w2)) := fun w' hb => by rw [hnm, hpre, hpb]; exact Expand_any Kt Kq seed hs w' (hw.bel hb)
  rw [← hpb]
  clear hw hs hnm hpre hpb
  go_enter Tryz.func108, Tryz.ntmps108
  go_wp2_with (first
    | (have hx_ := T0; refine s_box F0.out rfl rfl rfl rfl ?_; clear hx_ T0; intro w1 b1 h1 _; have F1 := Lib.hid h1; clear h1 F0; have T1 : Hid True := trivial)
    | (have hx_ := T1; refine s_alloc F1.out rfl rfl zeroB32 rfl ?_; clear hx_ T1; intro w2 b2 h1 _; have F2 := Lib.hid h1; clear h1 F1; have T2 : Hid True := trivial)
    | (have hx_ := T2; refine s_load_b rfl rfl seed HSD.out rfl (F2.out.lb 1 rfl) ?_; clear hx_ T2; have T3 : Hid True := trivial)
    | (go_at_call 138; have hx_ := T3; refine (CE.out _ F2.out.below).mono ?_; clear hx_ T3; rintro e w3 ⟨rfl, hb⟩; have F3 := Lib.hid (F2.out.later hb); clear hb F2; have T4 : Hid True := trivial)
    | (have hx_ := T4; refine s_field rfl rfl rfl (.agg (bvs pb).toArray) (fun w' => (field_pub _ w').trans (by rw [HX.out])) ?_; clear hx_ T4; have T5 : Hid True := trivial)
    | (have hx_ := T5; refine s_store_b F3.out rfl rfl 0 rfl rfl pb Lpb.out rfl rfl ?_; clear hx_ T5; intro w4 h1; have F4 := Lib.hid h1; clear h1 F3; have T6 : Hid True := trivial))
  exact bodyPost_ret (v := .agg (bvs pb).toArray) (by simp [results, Tryz.results108, asAddr]; exact ret32 Lpb.out (F4.out.mem (i := 0) rfl)) rfl ⟨rfl, F4.out.below⟩
end Go.Proofs.YtbcpmnnlhdgbhaaGreatDoor

namespace Go.Proofs.YtbcpmnnlhdgbhaaGreatDoor
open Go.RowKit Go.Lib
def seedF (K : List Int) (word secret : List UInt8) : List UInt8 := sumF K (word ++ secret)
theorem seedF_len (K : List Int) (word secret : List UInt8) : (seedF K word secret).length = 32 := sumF_len _ _
set_option maxRecDepth 100000 in
set_option maxHeartbeats 2000000 in
theorem derived_any (Kt Kq : List Int) (word secret : List UInt8) (hl : word.length ≤ 100) (hs : secret.length = 32) (w : World) (hw : NW w Kt Kq) : Calls Tryz.prog 142 #[.string ⟨word.toArray⟩, .agg (bvs secret).toArray] w (BRet (seedF Kt word secret) w) := by
  have F0 := Lib.hid (BK.start w)
  have T0 : Hid True := trivial
  have HS := Lib.hid hs
  have HL := Lib.hid hl
  obtain ⟨l, hl0⟩ : ∃ z, z = seedF Kt word secret := ⟨_, rfl⟩
  have Ll : Hid (l.length = 32) := by show _ = _; rw [hl0]; exact seedF_len _ _ _
  have CS : Hid (∀ A c w', Below w.heap.size w w' → Reads w' w'.heap.size 1 A (word.length + secret.length) (bvs (word ++ secret)) → word.length + secret.length ≤ c → Calls Tryz.prog 60 #[.slice A (word.length + secret.length) c] w' (fun e w2 => e = .returned (.agg (bvs l).toArray) ∧ Below w'.heap.size w' w2)) := fun A c w' hb hr hc => by
    rw [hl0]
    exact (Sum256_any A _ c Kt (word ++ secret) w' (hw.bel hb).1 hr hc (by omega) (by omega)).mono fun e w2 h => h
  rw [← hl0]
  clear hw hs hl hl0
  go_enter Tryz.func142, Tryz.ntmps142
  go_wp2_with (first
    | (have hx_ := T0; refine s_box F0.out rfl rfl rfl rfl ?_; clear hx_ T0; intro w1 b1 h1 _; have F1 := Lib.hid h1; clear h1 F0; have T1 : Hid True := trivial)
    | (have hx_ := T1; refine s_alloc F1.out rfl rfl zeroB32 rfl ?_; clear hx_ T1; intro w2 b2 h1 _; have F2 := Lib.hid h1; clear h1 F1; have T2 : Hid True := trivial)
    | (have hx_ := T2; refine s_conv F2.out rfl rfl word rfl (by have := HL.out; simp only [maxLen]; omega) ?_; clear hx_ T2; intro v0 w3 h1; have F3 := Lib.hid h1; clear h1 F2; have T3 : Hid True := trivial)
    | (have hx_ := T3; refine s_appB F3.out rfl rfl rfl rfl (F3.out.bk.reads 1 rfl 0 32 secret HS.out (fun j _ => by rw [Nat.zero_add, List.getElem?_toArray])) (by have := HL.out; omega) ?_; clear hx_ T3; intro v1 w4 h1; obtain ⟨A1, c1, rfl, hc1, hr1⟩ := h1.own.reads; rw [List.length_append] at hc1 hr1 h1; have HC1 := Lib.hid hc1; have HR1 := Lib.hid hr1; have hk1 := h1.bk; clear h1; have F4 := Lib.hid hk1; clear hk1 hc1 hr1 F3; have T4 : Hid True := trivial)
    | (go_at_call 60; have hx_ := T4; refine (CS.out A1 c1 _ F4.out.below HR1.out HC1.out).mono ?_; clear hx_ T4; rintro e w5 ⟨rfl, hb⟩; have F5 := Lib.hid (F4.out.later hb); clear hb F4; have T5 : Hid True := trivial)
    | (have hx_ := T5; refine s_store_b F5.out rfl rfl 0 rfl rfl l Ll.out rfl rfl ?_; clear hx_ T5; intro w6 h1; have F6 := Lib.hid h1; clear h1 F5; have T6 : Hid True := trivial))
  exact bodyPost_ret (v := .agg (bvs l).toArray) (by simp [results, Tryz.results142, asAddr]; exact ret32 Ll.out (F6.out.mem (i := 0) rfl)) rfl ⟨rfl, F6.out.below⟩
set_option maxRecDepth 100000 in
set_option maxHeartbeats 2000000 in
theorem SignSeed_any (Kt Kq : List Int) (secret : List UInt8) (hs : secret.length = 32) (w : World) (hw : NW w Kt Kq) : Calls Tryz.prog 106 #[.agg (bvs secret).toArray] w (BRet (seedF Kt [115, 105, 103, 110] secret) w) := by
  have F0 := Lib.hid (BK.start w)
  have T0 : Hid True := trivial
  have HS := Lib.hid hs
  obtain ⟨l, hl0⟩ : ∃ z, z = seedF Kt [115, 105, 103, 110] secret := ⟨_, rfl⟩
  have Ll : Hid (l.length = 32) := by show _ = _; rw [hl0]; exact seedF_len _ _ _
  have CD : Hid (∀ w', Below w.heap.size w w' → Calls Tryz.prog 142 #[.string ⟨#[115, 105, 103, 110]⟩, .agg (bvs secret).toArray] w' (fun e w2 => e = .returned (.agg (bvs l).toArray) ∧ Below w'.heap.size w' w2)) := fun w' hb => by
    rw [hl0]; exact derived_any Kt Kq [115, 105, 103, 110] secret (by decide) hs w' (hw.bel hb)
  rw [← hl0]
  clear hw hs hl0
  go_enter Tryz.func106, Tryz.ntmps106
  go_wp2_with (first
    | (have hx_ := T0; refine s_box F0.out rfl rfl rfl rfl ?_; clear hx_ T0; intro w1 b1 h1 _; have F1 := Lib.hid h1; clear h1 F0; have T1 : Hid True := trivial)
    | (have hx_ := T1; refine s_alloc F1.out rfl rfl zeroB32 rfl ?_; clear hx_ T1; intro w2 b2 h1 _; have F2 := Lib.hid h1; clear h1 F1; have T2 : Hid True := trivial)
    | (have hx_ := T2; refine s_load_b rfl rfl secret HS.out rfl (F2.out.lb 1 rfl) ?_; clear hx_ T2; have T3 : Hid True := trivial)
    | (go_at_call 142; have hx_ := T3; refine (CD.out _ F2.out.below).mono ?_; clear hx_ T3; rintro e w3 ⟨rfl, hb⟩; have F3 := Lib.hid (F2.out.later hb); clear hb F2; have T4 : Hid True := trivial)
    | (have hx_ := T4; refine s_store_b F3.out rfl rfl 0 rfl rfl l Ll.out rfl rfl ?_; clear hx_ T4; intro w4 h1; have F4 := Lib.hid h1; clear h1 F3; have T5 : Hid True := trivial))
  exact bodyPost_ret (v := .agg (bvs l).toArray) (by simp [results, Tryz.results106, asAddr]; exact ret32 Ll.out (F4.out.mem (i := 0) rfl)) rfl ⟨rfl, F4.out.below⟩
set_option maxRecDepth 100000 in
set_option maxHeartbeats 2000000 in
theorem VrfSeed_any (Kt Kq : List Int) (secret : List UInt8) (hs : secret.length = 32) (w : World) (hw : NW w Kt Kq) : Calls Tryz.prog 109 #[.agg (bvs secret).toArray] w (BRet (seedF Kt [118, 114, 102] secret) w) := by
  have F0 := Lib.hid (BK.start w)
  have T0 : Hid True := trivial
  have HS := Lib.hid hs
  obtain ⟨l, hl0⟩ : ∃ z, z = seedF Kt [118, 114, 102] secret := ⟨_, rfl⟩
  have Ll : Hid (l.length = 32) := by show _ = _; rw [hl0]; exact seedF_len _ _ _
  have CD : Hid (∀ w', Below w.heap.size w w' → Calls Tryz.prog 142 #[.string ⟨#[118, 114, 102]⟩, .agg (bvs secret).toArray] w' (fun e w2 => e = .returned (.agg (bvs l).toArray) ∧ Below w'.heap.size w' w2)) := fun w' hb => by
    rw [hl0]; exact derived_any Kt Kq [118, 114, 102] secret (by decide) hs w' (hw.bel hb)
  rw [← hl0]
  clear hw hs hl0
  go_enter Tryz.func109, Tryz.ntmps109
  go_wp2_with (first
    | (have hx_ := T0; refine s_box F0.out rfl rfl rfl rfl ?_; clear hx_ T0; intro w1 b1 h1 _; have F1 := Lib.hid h1; clear h1 F0; have T1 : Hid True := trivial)
    | (have hx_ := T1; refine s_alloc F1.out rfl rfl zeroB32 rfl ?_; clear hx_ T1; intro w2 b2 h1 _; have F2 := Lib.hid h1; clear h1 F1; have T2 : Hid True := trivial)
    | (have hx_ := T2; refine s_load_b rfl rfl secret HS.out rfl (F2.out.lb 1 rfl) ?_; clear hx_ T2; have T3 : Hid True := trivial)
    | (go_at_call 142; have hx_ := T3; refine (CD.out _ F2.out.below).mono ?_; clear hx_ T3; rintro e w3 ⟨rfl, hb⟩; have F3 := Lib.hid (F2.out.later hb); clear hb F2; have T4 : Hid True := trivial)
    | (have hx_ := T4; refine s_store_b F3.out rfl rfl 0 rfl rfl l Ll.out rfl rfl ?_; clear hx_ T4; intro w4 h1; have F4 := Lib.hid h1; clear h1 F3; have T5 : Hid True := trivial))
  exact bodyPost_ret (v := .agg (bvs l).toArray) (by simp [results, Tryz.results109, asAddr]; exact ret32 Ll.out (F4.out.mem (i := 0) rfl)) rfl ⟨rfl, F4.out.below⟩
end Go.Proofs.YtbcpmnnlhdgbhaaGreatDoor
