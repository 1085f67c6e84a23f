/- The texts PT6 HV0 HV1 HV2 KE0 KE1 of this work, merged by wip/merge.py. No conditions. -/
import Derived.Test.YtnhdepmalejclaaGreatDoorQG39
import Derived.Test.YtnhdepmalejclaaGreatDoorQG33
import Derived.Test.YtnhdepmalejclaaGreatDoorQG29
import Derived.Test.YtnhdepmalejclaaGreatDoorQG09
import Derived.Test.YtnhdepmalejclaaGreatDoorQG25
import Derived.Test.YtnhdepmalejclaaGreatDoorQG16
namespace Go.Proofs.YtnhdepmalejclaaGreatDoor
open Go.RowKit Go.Lib
theorem oftR_ok {p : Rt} (hp : p.ok) (n : Nat) : ∀ (i : Nat) (out : Rt), out.ok → (oftR p n i out).ok
  | 0, _, h => h
  | i + 1, out, h => by
    rw [oftR]
    refine oftR_ok hp n i _ ?_
    split
    · exact sumR_ok (sumR_ok h h) hp
    · exact sumR_ok h h
theorem baseR_eq (n : Nat) : baseR n = encodeR (oftenR n genP) := by rw [baseR, gen_dec]; rfl
theorem encodeR_len (p : Rt) : (encodeR p).length = 32 := by unfold encodeR; simp [toL_len]
theorem baseR_len (n : Nat) : (baseR n).length = 32 := encodeR_len _
set_option maxRecDepth 100000 in
set_option maxHeartbeats 1000000 in
theorem baseR_any (n : List UInt8) (hn : n.length = 32) (w : World) : Calls Tryz.prog 66 #[.agg (bvs n).toArray] w (BRet (baseR (ofL n)) w) := by
  have F0 := Lib.hid (BK.start w)
  have T0 : Hid True := trivial
  obtain ⟨g, hg⟩ : ∃ g, g = genB := ⟨_, rfl⟩
  obtain ⟨p, hp⟩ : ∃ p, p = genP := ⟨_, rfl⟩
  have Op : Hid p.ok := by show p.ok; rw [hp]; exact genP_ok
  have C0 : Hid (∀ w, Calls Tryz.prog 97 #[] w (fun e w' => e = .returned (.agg (bvs g).toArray) ∧ Below w.heap.size w w')) := fun w => by rw [hg]; exact Generator_any w
  have C1 : Hid (∀ w, Calls Tryz.prog 96 #[.agg (bvs g).toArray] w (fun e w' => e = .returned (.tuple #[.agg p.cs, .bool true]) ∧ Below w.heap.size w w')) := fun w => by rw [hg, hp]; exact Decode_gen w
  obtain ⟨q, hq⟩ : ∃ q, q = oftenR (ofL n) p := ⟨_, rfl⟩
  have C2 : Hid (∀ w, Calls Tryz.prog 99 #[.agg (bvs n).toArray, .agg p.cs] w (fun e w' => e = .returned (.agg q.cs) ∧ Below w.heap.size w w')) := fun w => by rw [hq]; exact oftenR_any n p hn Op.out w
  have Oq : Hid q.ok := by show q.ok; rw [hq]; exact oftR_ok Op.out _ _ _ neutralR_ok
  obtain ⟨l, hl⟩ : ∃ l, l = encodeR q := ⟨_, rfl⟩
  have Hl : Hid (l.length = 32) := by show _ = _; rw [hl]; exact encodeR_len _
  have C3 : Hid (∀ w, Calls Tryz.prog 98 #[.agg q.cs] w (fun e w' => e = .returned (.agg (bvs l).toArray) ∧ Below w.heap.size w w')) := fun w => by rw [hl]; exact encodeR_any q Oq.out w
  have HR : Hid (l = baseR (ofL n)) := by show _ = _; rw [baseR_eq, hl, hq, hp]
  rw [← HR.out]
  have HN := Lib.hid hn
  clear hl hq hp hg hn HR
  go_enter Tryz.func66, Tryz.ntmps66
  go_wp2_with (first
    | (have hx_ := T0; refine s_box F0.out rfl rfl rfl rfl ?_; clear hx_ T0; intro w1 b1 h1 _; have F1 := Lib.hid h1; clear h1 F0; have T1 : Hid True := trivial)
    | (have hx_ := T1; refine s_alloc F1.out rfl rfl zeroB rfl ?_; clear hx_ T1; intro w2 b2 h1 _; have F2 := Lib.hid h1; clear h1 F1; have T2 : Hid True := trivial)
    | (go_at_call 97; have hx_ := T2; refine (C0.out _).mono ?_; clear hx_ T2; rintro e w3 ⟨rfl, hb⟩; have F3 := Lib.hid (F2.out.later hb); clear hb F2; have T3 : Hid True := trivial)
    | (go_at_call 96; have hx_ := T3; refine (C1.out _).mono ?_; clear hx_ T3; rintro e w4 ⟨rfl, hb⟩; have F4 := Lib.hid (F3.out.later hb); clear hb F3; have T4 : Hid True := trivial)
    | (have hx_ := T4; refine s_alloc F4.out rfl rfl zeroR rfl ?_; clear hx_ T4; intro w5 b3 h1 _; have F5 := Lib.hid h1; clear h1 F4; have T5 : Hid True := trivial)
    | (have hx_ := T5; refine s_store F5.out rfl rfl 0 rfl rfl p.cs rfl rfl (by kernel_rfl) (Rt.cells _) ?_; clear hx_ T5; intro w6 h1; have F6 := Lib.hid h1; clear h1 F5; have T6 : Hid True := trivial)
    | (have hx_ := T6; refine s_load_b rfl rfl n HN.out rfl (F6.out.lb 2 rfl) ?_; clear hx_ T6; have T7 : Hid True := trivial)
    | (have hx_ := T7; refine s_load_r rfl rfl p rfl (F6.out.lr 0 rfl) ?_; clear hx_ T7; have T8 : Hid True := trivial)
    | (go_at_call 99; have hx_ := T8; refine (C2.out _).mono ?_; clear hx_ T8; rintro e w7 ⟨rfl, hb⟩; have F7 := Lib.hid (F6.out.later hb); clear hb F6; have T9 : Hid True := trivial)
    | (go_at_call 98; have hx_ := T9; refine (C3.out _).mono ?_; clear hx_ T9; rintro e w8 ⟨rfl, hb⟩; have F8 := Lib.hid (F7.out.later hb); clear hb F7; have T10 : Hid True := trivial)
    | (have hx_ := T10; refine s_store_b F8.out rfl rfl 1 rfl rfl l Hl.out rfl rfl ?_; clear hx_ T10; intro w9 h1; have F9 := Lib.hid h1; clear h1 F8))
  exact bodyPost_ret (v := .agg (bvs l).toArray) (by simp [results, Tryz.results66, asAddr]; exact ret32 Hl.out (F9.out.mem (i := 1) rfl)) rfl ⟨rfl, F9.out.below⟩
end Go.Proofs.YtnhdepmalejclaaGreatDoor

namespace Go.Proofs.YtnhdepmalejclaaGreatDoor
open Go.RowKit Go.Lib
/-- Bytes appended to a slice of none: they lie in a new row. -/
theorem run_appNew {w : World} {g : Nat} {news : List UInt8} {ad : Addr} {m c : Nat} (ty : TypeId) (hr : Reads w w.heap.size 1 (some ad) m (bvs news)) (hm0 : 0 < m) (hm1 : m ≤ 100000) :
    ∃ A c' w', (Builtin.append_ #[108, 108] ty #[.slice (some ⟨g, 0, none⟩) 0 0, .slice (some ad) m c]).run Tryz.prog w = .ok (.slice A m c') w' ∧ m ≤ c' ∧ Reads w' w'.heap.size 1 A m (bvs news) ∧ Below w.heap.size w w' ∧ ∀ p, A = some p → w.heap.size ≤ p.block ∧ p.block < w'.heap.size := by
  obtain ⟨i0, hi0, hz0, hz1, hz2⟩ := info_parts u8info
  have hm : m = news.length := by have := hr.1; rw [bvs_length] at this; omega
  subst hm
  obtain ⟨ad', he, _, hcells⟩ := hr.2 hm0
  cases he
  have hr3 := run_append_grow (P := Tryz.prog) w 108 ty 5 i0 (.int .u8 0) Tryz.underlying108 hi0 hz0 ⟨g, 0, none⟩ 0 0 [] (by simp) (fun j u hu => by simp at hu) ad news.length c (bvs news) (by rw [hz1, bvs_length, Nat.mul_one]) hcells (by omega) (by omega) (by rw [hz2]; exact growslice_fits (by omega) (by omega))
  have hge := grownCap_ge w (0 + news.length) 0 5
  have hcm := grownCap_le_maxLen w (0 + news.length) 0 5 (by simp only [maxLen]; omega)
  have hF := OwnT.fresh (w := w) (base := w.heap.size) (l := news) (cap := grownCap w (0 + news.length) 0 5) (Nat.le_refl _) (by omega) hcm
  obtain ⟨g2, c2, hv2, _, hr2⟩ := hF.reads
  cases hv2
  simp only [Nat.zero_add] at hr3 hge hr2
  refine ⟨_, _, _, hr3, hge, ?_, ⟨rfl, rfl, rfl, by simp, fun k hk => heap_alloc_old w.drew _ hk⟩, fun p e => (by cases e; exact ⟨Nat.le_refl _, lt_of_some (heap_alloc_new w.drew _)⟩)⟩
  have e : (([] : List Value).toArray ++ (bvs news).toArray) = (bvs news).toArray := by simp
  rw [e]
  exact hr2
/-- Bytes that lie in a new row. -/
def Tell.bytesN (l : List UInt8) : Tell := ⟨fun u => ∃ A c, u = .slice A l.length c ∧ l.length ≤ c, fun _ u w => ∀ A c, u = .slice A l.length c → Reads w w.heap.size 1 A l.length (bvs l), fun u => match u with | .slice (some p) _ _ => some p.block | _ => none⟩
theorem Tell.bytesN_good (l : List UInt8) : (Tell.bytesN l).Good := ⟨⟨_, none, _, rfl, Nat.le_refl _⟩, fun _ _ _ _ h hb A c e => ((h A c e).below hb).more hb.size⟩
theorem rg_appNew {l : List Oper} {w0 : World} {K : List (Nat × (World → Prop)) → List (Option Nat) → Act → Prop} {r : List (Oper × Option Tell)} {k : Nat} {fs : List (Nat × (World → Prop))} {bs : List (Option Nat)} {a : Act} {o : Oper} {x z : Operand} {g m c : Nat} {ad : Addr} {news : List UInt8} (ho : o.op = .call { callee := .builtin .append, args := #[x, z], argTypes := #[108, 108] }) (hx : a.eval x = .slice (some ⟨g, 0, none⟩) 0 0) (hz : a.eval z = .slice (some ad) m c) (hm : news.length = m) (hm0 : 0 < m) (hm1 : m ≤ 100000)
    (hc : ∀ w, Below w0.heap.size w0 w → told l k fs w → Reads w w.heap.size 1 (some ad) m (bvs news))
    (hK : ∀ A c, news.length ≤ c → rgWalk Tryz.prog l w0 K r (k + 1) (fs ++ [(k, fun w => Reads w w.heap.size 1 A news.length (bvs news))]) (bs ++ [A.map (·.block)]) (a.put o.dst (.slice A news.length c))) : rgWalk Tryz.prog l w0 K ((o, some (Tell.bytesN news)) :: r) k fs bs a := by
  subst hm
  refine ⟨fun w hb ht => ?_, fun v hv => ?_⟩
  · have h2 := hc w hb ht
    obtain ⟨A, c', w', hrun, hle, hrd, hb', hnew⟩ := run_appNew (g := g) (c := c) o.type h2 hm0 hm1
    unfold okOp
    have h3 : (execOp a.eval o).run Tryz.prog w = .ok (.value (.slice A news.length c')) w' := by
      unfold execOp
      simp only [ho, resolve, invoke, builtin, Sem.run_bind, Sem.run_pure, Result.andThen_ok, List.map_toArray, List.map_cons, List.map_nil, hx, hz, hrun]
    rw [h3]
    exact ⟨⟨A, c', rfl, hle⟩, fun A' c2 e2 => (by cases e2; exact hrd), hb', fun b hb => (by cases A with | none => cases hb | some p => cases hb; exact hnew p rfl)⟩
  · obtain ⟨A, c', rfl, hle⟩ := hv
    have h1 := hK A c' hle
    have e : (fun w : World => Reads w w.heap.size 1 A news.length (bvs news)) = (Tell.bytesN news).holds (argsOf l.toArray o a) (.slice A news.length c') := by
      funext w
      apply propext
      refine ⟨fun h A' c2 e => ?_, fun h => h A c' rfl⟩
      cases e
      exact h
    rw [e] at h1
    have e3 : (Tell.bytesN news).own (.slice A news.length c') = A.map (·.block) := by cases A <;> rfl
    rw [e3]
    exact h1
theorem rg_empty {l : List Oper} {w0 : World} {K : List (Nat × (World → Prop)) → List (Option Nat) → Act → Prop} {r : List (Oper × Option Tell)} {k : Nat} {fs : List (Nat × (World → Prop))} {bs : List (Option Nat)} {a : Act} {o : Oper} (ho : o.op = .buildSlice 108 0 #[])
    (hK : ∀ b, rgWalk Tryz.prog l w0 K r (k + 1) (fs ++ [(k, fun w => w.heap[b]? = some (.cells #[] 5 (0, 0)))]) (bs ++ [some b]) (a.put o.dst (.slice (some ⟨b, 0, none⟩) 0 0))) : rgWalk Tryz.prog l w0 K ((o, some (Tell.row 0 (fun _ => #[]) 5)) :: r) k fs bs a :=
  rg_row ho (fun _ => #[]) (fun w => by
    have e : ((#[] : Array (Nat × Operand)).map fun x => match x with | (i, x) => (i, a.eval x)) = #[] := by simp
    rw [e]; exact bs0 w) rfl hK
theorem reads_other {w w' : World} {A : Option Addr} {n : Nat} {xs : List Value} (h : Reads w w.heap.size 1 A n xs) (hk : ∀ p, A = some p → w'.heap[p.block]? = w.heap[p.block]?) : Reads w' w'.heap.size 1 A n xs := by
  refine ⟨h.1, fun h0 => ?_⟩
  obtain ⟨ad, e, hb, hc⟩ := h.2 h0
  have h1 := hk ad e
  have hb' : ad.block < w'.heap.size := by
    rw [Array.getElem?_eq_getElem hb] at h1
    exact (Array.getElem?_eq_some_iff.1 h1).1
  refine ⟨ad, e, hb', fun j u hu => ?_⟩
  have h2 := hc j u hu
  unfold World.cell? at h2 ⊢
  rw [block_of_add] at h2 ⊢
  rw [h1]
  exact h2
def numR_ (seed : List UInt8) : List UInt8 := clampF ((rsum512 seed).take 32)
theorem numR_len (seed : List UInt8) : (numR_ seed).length = 32 := by rw [numR_, clampF_len, List.length_take, rsum512_len]; decide
def preR_ (seed : List UInt8) : List UInt8 := (rsum512 seed).drop 32
end Go.Proofs.YtnhdepmalejclaaGreatDoor

namespace Go.Proofs.YtnhdepmalejclaaGreatDoor
open Go.RowKit Go.Lib
def HalfPost (seed : List UInt8) (w : World) (e : Ending) (w' : World) : Prop := ∃ A c, e = .returned (.tuple #[.agg (bvs (numR_ seed)).toArray, .slice A (preR_ seed).length c]) ∧ (preR_ seed).length ≤ c ∧ Reads w' w'.heap.size 1 A (preR_ seed).length (bvs (preR_ seed)) ∧ Below w.heap.size w w'
set_option maxRecDepth 100000 in
set_option maxHeartbeats 2000000 in
theorem halves_any (seed : List UInt8) (hs : seed.length = 32) (w : World) : Calls Tryz.prog 65 #[.agg (bvs seed).toArray] w (HalfPost seed w) := by
  have F0 := Lib.hid (BK.start w)
  have T0 : Hid True := trivial
  have HS := Lib.hid hs
  obtain ⟨h, hh⟩ : ∃ h, h = rsum512 seed := ⟨_, rfl⟩
  have Hh : Hid (h.length = 64) := by show _ = _; rw [hh]; exact rsum512_len _
  obtain ⟨x, hx⟩ : ∃ x, x = h.take 32 := ⟨_, rfl⟩
  obtain ⟨y, hy⟩ : ∃ y, y = h.drop 32 := ⟨_, rfl⟩
  have Hx : Hid (x.length = 32) := by show _ = _; rw [hx, List.length_take, Hh.out]; decide
  have Hy : Hid (y.length = 32) := by show _ = _; rw [hy, List.length_drop, Hh.out]
  have HXY : Hid (h = x ++ y) := by show _ = _; rw [hx, hy, List.take_append_drop]
  obtain ⟨x1, hx1⟩ : ∃ z, z = x.set 0 (x.getD 0 0 &&& 248) := ⟨_, rfl⟩
  have Hx1 : Hid (x1.length = 32) := by show _ = _; rw [hx1, List.length_set]; exact Hx.out
  obtain ⟨nm, hnm⟩ : ∃ z, z = x1.set 31 (x1.getD 31 0 &&& 127 ||| 64) := ⟨_, rfl⟩
  have Hnm : Hid (nm.length = 32) := by show _ = _; rw [hnm, List.length_set]; exact Hx1.out
  have ENM : nm = numR_ seed := by
    rw [hnm, hx1, numR_, clampF, ← hh, ← hx]
    congr 2
    simp [List.getD]
  have EY : y = preR_ seed := by rw [hy, hh]; rfl
  have PF : Hid (putPart (bvs (List.replicate 32 0)).toArray 0 (bvs x) = (bvs x).toArray) := by
    show _ = _
    have h1 := putPart_mid [] (bvs (List.replicate 32 0)) [] (bvs x) 0 rfl (by rw [bvs_length, bvs_length, Hx.out, List.length_replicate])
    simpa using h1
  have S1 : Hid ((bvs x).toArray.setIfInBounds 0 (.int .u8 (bits BinOp.and IntKind.u8 ((x.getD 0 0).toNat : Int) 248)) = (bvs x1).toArray) := by show _ = _; rw [hx1]; have h1 := set_in (x := x) (y := []) (k := 0) (by rw [Hx.out]; decide) (and248 (x.getD 0 0)); simpa using h1
  have S2 : Hid ((bvs x1).toArray.setIfInBounds 31 (.int .u8 (bits BinOp.or IntKind.u8 (bits BinOp.and IntKind.u8 ((x1.getD 31 0).toNat : Int) 127) 64)) = (bvs nm).toArray) := by show _ = _; rw [hnm]; have h1 := set_in (x := x1) (y := []) (k := 31) (by rw [Hx1.out]; decide) (and127 (x1.getD 31 0)); simpa using h1
  have B1 : Hid ((bvs x).toArray[0]? = some (.int .u8 ((x.getD 0 0).toNat : Int))) := by show _ = _; have h1 := byte_in (x := x) (y := []) (k := 0) (by rw [Hx.out]; decide); simpa using h1
  have B2 : Hid ((bvs x1).toArray[31]? = some (.int .u8 ((x1.getD 31 0).toNat : Int))) := by show _ = _; have h1 := byte_in (x := x1) (y := []) (k := 31) (by rw [Hx1.out]; decide); simpa using h1
  obtain ⟨n0, hn0⟩ : ∃ n, n = (x.getD 0 0).toNat := ⟨_, rfl⟩
  obtain ⟨n1, hn1⟩ : ∃ n, n = (x1.getD 31 0).toNat := ⟨_, rfl⟩
  rw [← hn0] at S1 B1
  rw [← hn1] at S2 B2
  have C5 : Hid (∀ w' A c, Below w.heap.size w w' → Reads w' w'.heap.size 1 A 32 (bvs seed) → Calls Tryz.prog 95 #[.slice A 32 c] w' (fun e w2 => e = .returned (.agg (bvs h).toArray) ∧ Below w'.heap.size w' w2)) := fun w' A c _ hr => by rw [hh]; exact rsum512_any A 32 c seed (by decide) w' hr
  have HP : Hid (∀ A c e w', e = .returned (.tuple #[.agg (bvs nm).toArray, .slice A y.length c]) → y.length ≤ c → Reads w' w'.heap.size 1 A y.length (bvs y) → Below w.heap.size w w' → HalfPost seed w e w') := fun A c e w' h1 h2 h3 h4 => by
    rw [ENM, EY] at h1
    rw [EY] at h2 h3
    exact ⟨A, c, h1, h2, h3, h4⟩
  clear hs hh hx hy hx1 hnm ENM EY hn0 hn1
  have q1 := slAll32
  have q2 := slH64_32
  have q3 := sl64_32
  go_enter Tryz.func65, Tryz.ntmps65
  go_wp2_with (first
    | (have hx_ := T0; refine s_box F0.out rfl rfl rfl rfl ?_; clear hx_ T0; intro w1 b1 h1 _; have F1 := Lib.hid h1; clear h1 F0; have T1 : Hid True := trivial)
    | (have hx_ := T1; refine s_alloc F1.out rfl rfl zeroB32 rfl ?_; clear hx_ T1; intro w2 b2 h1 _; have F2 := Lib.hid h1; clear h1 F1; have T2 : Hid True := trivial)
    | (go_at_call 95; have hx_ := T2; refine (C5.out _ _ _ F2.out.below (F2.out.reads 1 rfl 0 32 seed HS.out (fun j _ => by rw [Nat.zero_add, List.getElem?_toArray]))).mono ?_; clear hx_ T2; rintro e w3 ⟨rfl, hb⟩; have F3 := Lib.hid (F2.out.later hb); clear hb F2; have T3 : Hid True := trivial)
    | (have hx_ := T3; refine s_alloc F3.out rfl rfl zeroB64 rfl ?_; clear hx_ T3; intro w4 b3 h1 _; have F4 := Lib.hid h1; clear h1 F3; have T4 : Hid True := trivial)
    | (have hx_ := T4; refine s_store F4.out rfl rfl 0 rfl rfl (bvs h).toArray rfl (by rw [bvs_size, Hh.out]; rfl) (by rw [bvs_size, Hh.out]; kernel_rfl) (bvs_cells _) ?_; clear hx_ T4; intro w5 h1; have F5 := Lib.hid h1; clear h1 F4; have T5 : Hid True := trivial)
    | (have hx_ := T5; refine s_alloc F5.out rfl rfl zeroB32 rfl ?_; clear hx_ T5; intro w6 b4 h1 _; have F6 := Lib.hid h1; clear h1 F5; have T6 : Hid True := trivial))
  refine wp_quiet_tail 2 (by kernel_rfl) (by kernel_rfl) ?_
  simp only [List.take_succ_cons, List.take_zero, List.drop_succ_cons, List.drop_zero]
  try simp only [Act.put]
  try simp only [List.setIfInBounds_toArray, List.set_cons_succ, List.set_cons_zero]
  repeat (go_big_quiet_step (fail))
  refine wpQuiet_nil ?_
  have T6 : Hid True := trivial
  go_wp2_with (first
    | (have hx_ := T6; refine s_copy F6.out.drew rfl rfl 0 rfl rfl rfl (F6.out.drew.reads 1 rfl 0 32 x Hx.out (fun j hj => by rw [Nat.zero_add, HXY.out, List.getElem?_toArray, bvs_append, List.getElem?_append_left (by rw [bvs_length, Hx.out]; exact hj)])) Hx.out (by rw [bvs_size, List.length_replicate]; decide) ?_; clear hx_ T6; intro w7 h1; simp only [List.set_cons_zero] at h1; rw [PF.out] at h1; have c0 := (h1.cell 0 rfl 0).trans B1.out; have F7 := Lib.hid h1; clear h1 F6; have T7 : Hid True := trivial)
    | (have hx_ := T7; refine s_set8 F7.out rfl rfl 0 rfl 0 (by rw [bvs_size, Hx.out]; decide) rfl _ rfl ?_; clear hx_ T7; intro w8 h1; simp only [List.set_cons_zero] at h1; rw [S1.out] at h1; clear c0; have c1 := (h1.cell 0 rfl 31).trans B2.out; have F8 := Lib.hid h1; clear h1 F7; have T8 : Hid True := trivial)
    | (have hx_ := T8; refine s_set8 F8.out rfl rfl 0 rfl 31 (by rw [bvs_size, Hx1.out]; decide) rfl _ rfl ?_; clear hx_ T8; intro w9 h1; simp only [List.set_cons_zero] at h1; rw [S2.out] at h1; clear c1; have F9 := Lib.hid h1; clear h1 F8; have T9 : Hid True := trivial))
  refine wp_region_rg' 4 [none, some (Tell.row 0 (fun _ => #[]) 5), none, some (Tell.bytesN y)] (by kernel_rfl) rfl (by kernel_rfl) ⟨Tell.row_good _ _ _, Tell.bytesN_good _, trivial⟩ ?_
  simp only [List.take_succ_cons, List.take_zero, List.zip_cons_cons, List.zip_nil_right]
  try simp only [Act.put]
  try simp only [List.setIfInBounds_toArray, List.set_cons_succ, List.set_cons_zero]
  refine rg_load _ _ rfl b4 0 rfl (bvs nm).toArray (fun w' hb _ => (F9.out.later hb).range 0 rfl) Tryz.underlying25 rfl (by rw [bvs_size, Hnm.out]; kernel_rfl) ?_
  try simp only [Act.put]
  try simp only [List.setIfInBounds_toArray, List.set_cons_succ, List.set_cons_zero]
  refine rg_empty rfl ?_
  intro g
  try simp only [Act.put]
  try simp only [List.setIfInBounds_toArray, List.set_cons_succ, List.set_cons_zero]
  refine rg_e rfl fun N hNe => ?_
  go_big_quiet_step (fail)
  refine wpQuiet_nil ?_
  refine rg_appNew rfl rfl rfl Hy.out (by decide) (by decide) (fun w' hb _ => (F9.out.later hb).reads 1 rfl 32 32 y Hy.out (fun j hj => by rw [HXY.out, List.getElem?_toArray, bvs_append, List.getElem?_append_right (by rw [bvs_length, Hx.out]; omega), bvs_length, Hx.out, Nat.add_sub_cancel_left])) ?_
  intro A c hc
  have HC := Lib.hid hc
  clear hc
  try simp only [Act.put]
  try simp only [List.setIfInBounds_toArray, List.set_cons_succ, List.set_cons_zero]
  intro w10 hb hfs hnd hown
  have F10 := Lib.hid (F9.out.later hb)
  have HR := Lib.hid (hfs (3, fun w' => Reads w' w'.heap.size 1 A y.length (bvs y)) (List.mem_of_getElem? (i := 1) rfl))
  have HNW : Hid (∀ p, A = some p → p.block ≠ b2) := Lib.hid (fun p e e2 => by have h1 := (hown p.block (by rw [e]; simp)).1; have h2 := lt_of_some (F9.out.mem (i := 2) rfl); have h2 : b2 < _ := h2; omega)
  clear hb hfs hnd hown F9
  simp only [List.drop_succ_cons, List.drop_zero]
  try simp only [Act.put]
  try simp only [List.setIfInBounds_toArray, List.set_cons_succ, List.set_cons_zero]
  have T9 : Hid True := trivial
  go_wp2_with (have hx_ := T9; refine s_storef F10.out rfl rfl 2 rfl rfl (bvs nm).toArray rfl (by rw [bvs_size, bvs_size, Hnm.out, List.length_replicate]) (by rw [bvs_size, Hnm.out]; kernel_rfl) (bvs_cells _) ?_; clear hx_ T9; intro v9 h1 hk; have F99 := Lib.hid h1; have HK := Lib.hid hk; clear h1 hk)
  have hl := ret32 Hnm.out (F99.out.mem (i := 2) rfl)
  have hr9 : Reads v9 v9.heap.size 1 A y.length (bvs y) := reads_other HR.out (fun p e => HK.out p.block (HNW.out p e))
  exact bodyPost_ret (v := .tuple #[.agg (bvs nm).toArray, .slice A y.length c]) (by simp [results, Tryz.results65, asAddr, hl]) rfl (HP.out A c _ _ rfl HC.out hr9 F99.out.below)
end Go.Proofs.YtnhdepmalejclaaGreatDoor

namespace Go.Proofs.YtnhdepmalejclaaGreatDoor
open Go.RowKit Go.Lib
def pubR_ (seed : List UInt8) : List UInt8 := baseR (ofL (numR_ seed))
theorem pubR_len (seed : List UInt8) : (pubR_ seed).length = 32 := baseR_len _
set_option maxRecDepth 100000 in
set_option maxHeartbeats 2000000 in
theorem rPublic5_any (seed : List UInt8) (hs : seed.length = 32) (w : World) : Calls Tryz.prog 41 #[.agg (bvs seed).toArray] w (BRet (pubR_ seed) w) := by
  have F0 := Lib.hid (BK.start w)
  have T0 : Hid True := trivial
  have HS := Lib.hid hs
  obtain ⟨p, hp⟩ : ∃ z, z = pubR_ seed := ⟨_, rfl⟩
  obtain ⟨nm, hnm⟩ : ∃ z, z = numR_ seed := ⟨_, rfl⟩
  have Ln : Hid (nm.length = 32) := by show _ = _; rw [hnm]; exact numR_len _
  have Lp : Hid (p.length = 32) := by show _ = _; rw [hp]; exact pubR_len _
  have CH : Hid (∀ w', Calls Tryz.prog 65 #[.agg (bvs seed).toArray] w' (fun e w2 => ∃ A c, e = .returned (.tuple #[.agg (bvs nm).toArray, .slice A (preR_ seed).length c]) ∧ (preR_ seed).length ≤ c ∧ Reads w2 w2.heap.size 1 A (preR_ seed).length (bvs (preR_ seed)) ∧ Below w'.heap.size w' w2)) := fun w' => by rw [hnm]; exact halves_any seed hs w'
  have CB : Hid (∀ w', Calls Tryz.prog 66 #[.agg (bvs nm).toArray] w' (fun e w2 => e = .returned (.agg (bvs p).toArray) ∧ Below w'.heap.size w' w2)) := fun w' => by rw [hp, pubR_, ← hnm]; exact baseR_any nm Ln.out w'
  rw [← hp]
  clear hs hp hnm
  go_enter Tryz.func41, Tryz.ntmps41
  go_wp2_with (first
    | (have hx_ := T0; refine s_box F0.out rfl rfl rfl rfl ?_; clear hx_ T0; intro w1 b1 h1 _; have F1 := Lib.hid h1; clear h1 F0; have T1 : Hid True := trivial)
    | (have hx_ := T1; refine s_alloc F1.out rfl rfl zeroB32 rfl ?_; clear hx_ T1; intro w2 b2 h1 _; have F2 := Lib.hid h1; clear h1 F1; have T2 : Hid True := trivial)
    | (have hx_ := T2; refine s_load_b rfl rfl seed HS.out rfl (F2.out.lb 1 rfl) ?_; clear hx_ T2; have T3 : Hid True := trivial)
    | (go_at_call 65; have hx_ := T3; refine (CH.out _).mono ?_; clear hx_ T3; rintro e w3 ⟨A7, c7, rfl, _, _, hb⟩; have F3 := Lib.hid (F2.out.later hb); clear hb F2; have T4 : Hid True := trivial)
    | (have hx_ := T4; refine s_alloc F3.out rfl rfl zeroB32 rfl ?_; clear hx_ T4; intro w4 b3 h1 _; have F4 := Lib.hid h1; clear h1 F3; have T5 : Hid True := trivial)
    | (have hx_ := T5; refine s_store_b F4.out rfl rfl 0 rfl rfl nm Ln.out rfl rfl ?_; clear hx_ T5; intro w5 h1; have F5 := Lib.hid h1; clear h1 F4; have T6 : Hid True := trivial)
    | (have hx_ := T6; refine s_load_b rfl rfl nm Ln.out rfl (F5.out.lb 0 rfl) ?_; clear hx_ T6; have T7 : Hid True := trivial)
    | (go_at_call 66; have hx_ := T7; refine (CB.out _).mono ?_; clear hx_ T7; rintro e w6 ⟨rfl, hb⟩; have F6 := Lib.hid (F5.out.later hb); clear hb F5; have T8 : Hid True := trivial)
    | (have hx_ := T8; refine s_store_b F6.out rfl rfl 1 rfl rfl p Lp.out rfl rfl ?_; clear hx_ T8; intro w7 h1; have F7 := Lib.hid h1; clear h1 F6; have T9 : Hid True := trivial))
  exact bodyPost_ret (v := .agg (bvs p).toArray) (by simp [results, Tryz.results41, asAddr]; exact ret32 Lp.out (F7.out.mem (i := 1) rfl)) rfl ⟨rfl, F7.out.below⟩
def keysR (secret : List UInt8) (g : Nat) : KeyV := ⟨g, pubR_ (rsum256 ([[115, 105, 103, 110], secret].flatten)), pubR_ (rsum256 ([[118, 114, 102], secret].flatten))⟩
set_option maxRecDepth 100000 in
set_option maxHeartbeats 2000000 in
theorem rPublic_any (secret : List UInt8) (hs : secret.length = 32) (g : Nat) (w : World) : Calls Tryz.prog 17 #[.agg (bvs secret).toArray, .int .u64 (g : Int)] w (KRet (keysR secret g) w) := by
  have F0 := Lib.hid (BK.start w)
  have T0 : Hid True := trivial
  have HS := Lib.hid hs
  obtain ⟨l1, hl1⟩ : ∃ z, z = rsum256 ([[115, 105, 103, 110], secret].flatten) := ⟨_, rfl⟩
  obtain ⟨l2, hl2⟩ : ∃ z, z = rsum256 ([[118, 114, 102], secret].flatten) := ⟨_, rfl⟩
  obtain ⟨p1, hp1⟩ : ∃ z, z = pubR_ l1 := ⟨_, rfl⟩
  obtain ⟨p2, hp2⟩ : ∃ z, z = pubR_ l2 := ⟨_, rfl⟩
  have L1 : l1.length = 32 := by rw [hl1]; exact rsum256_len _
  have L2 : l2.length = 32 := by rw [hl2]; exact rsum256_len _
  have OK : Hid ((KeyV.mk g p1 p2).ok) := Lib.hid ⟨by rw [hp1]; exact pubR_len _, by rw [hp2]; exact pubR_len _⟩
  have BK1 : Hid ((Tryz.prog).built 33 [(0, .int .u64 (g : Int)), (1, .agg (bvs p1).toArray), (2, .agg (bvs p2).toArray)] = some (KeyV.mk g p1 p2).cs) := Lib.hid (built_key OK.out.s OK.out.v)
  have HR : keysR secret g = ⟨g, p1, p2⟩ := by rw [hp1, hp2, hl1, hl2]; rfl
  have C1 : Hid (∀ w', Calls Tryz.prog 42 #[.agg (bvs secret).toArray] w' (fun e w2 => e = .returned (.agg (bvs l1).toArray) ∧ Below w'.heap.size w' w2)) := fun w' => by rw [hl1]; exact rSignSeed_any secret hs w'
  have C2 : Hid (∀ w', Calls Tryz.prog 43 #[.agg (bvs secret).toArray] w' (fun e w2 => e = .returned (.agg (bvs l2).toArray) ∧ Below w'.heap.size w' w2)) := fun w' => by rw [hl2]; exact rVrfSeed_any secret hs w'
  have D1 : Hid (∀ w', Calls Tryz.prog 41 #[.agg (bvs l1).toArray] w' (fun e w2 => e = .returned (.agg (bvs p1).toArray) ∧ Below w'.heap.size w' w2)) := fun w' => by rw [hp1]; exact rPublic5_any l1 L1 w'
  have D2 : Hid (∀ w', Calls Tryz.prog 41 #[.agg (bvs l2).toArray] w' (fun e w2 => e = .returned (.agg (bvs p2).toArray) ∧ Below w'.heap.size w' w2)) := fun w' => by rw [hp2]; exact rPublic5_any l2 L2 w'
  rw [HR]
  clear hs hl1 hl2 hp1 hp2 L1 L2 HR
  go_enter Tryz.func17, Tryz.ntmps17
  go_wp2_with (first
    | (have hx_ := T0; refine s_box F0.out rfl rfl rfl rfl ?_; clear hx_ T0; intro w1 b1 h1 _; have F1 := Lib.hid h1; clear h1 F0; have T1 : Hid True := trivial)
    | (have hx_ := T1; refine s_alloc F1.out rfl rfl zeroKey rfl ?_; clear hx_ T1; intro w2 b2 h1 _; have F2 := Lib.hid h1; clear h1 F1; have T2 : Hid True := trivial))
  refine wp_region_rg' 8 [none, none, some (Tell.is (.agg (bvs l1).toArray)), some (Tell.is (.agg (bvs p1).toArray)), none, some (Tell.is (.agg (bvs l2).toArray)), some (Tell.is (.agg (bvs p2).toArray)), none] (by kernel_rfl) rfl (by kernel_rfl) ⟨Tell.is_good _, Tell.is_good _, Tell.is_good _, Tell.is_good _, trivial⟩ ?_
  simp only [List.take_succ_cons, List.take_zero, List.zip_cons_cons, List.zip_nil_right]
  try simp only [Act.put]
  try simp only [List.setIfInBounds_toArray, List.set_cons_succ, List.set_cons_zero]
  refine rg_e rfl fun N hNe => ?_
  go_big_quiet_step (fail)
  refine wpQuiet_nil ?_
  refine rg_load _ _ rfl b1 0 rfl (bvs secret).toArray (fun w' hb _ => (F2.out.later hb).range 1 rfl) Tryz.underlying25 rfl (by rw [bvs_size, HS.out]; kernel_rfl) ?_
  try simp only [Act.put]
  try simp only [List.setIfInBounds_toArray, List.set_cons_succ, List.set_cons_zero]
  refine rg_call 42 _ rfl (vs := [.agg (bvs secret).toArray]) rfl (fun _ _ => rfl) (v := .agg (bvs l1).toArray) (fun w' hb ht => C1.out w') ?_
  try simp only [Act.put]
  try simp only [List.setIfInBounds_toArray, List.set_cons_succ, List.set_cons_zero]
  refine rg_call 41 _ rfl (vs := [.agg (bvs l1).toArray]) rfl (fun _ _ => rfl) (v := .agg (bvs p1).toArray) (fun w' hb ht => D1.out w') ?_
  try simp only [Act.put]
  try simp only [List.setIfInBounds_toArray, List.set_cons_succ, List.set_cons_zero]
  refine rg_load _ _ rfl b1 0 rfl (bvs secret).toArray (fun w' hb _ => (F2.out.later hb).range 1 rfl) Tryz.underlying25 rfl (by rw [bvs_size, HS.out]; kernel_rfl) ?_
  try simp only [Act.put]
  try simp only [List.setIfInBounds_toArray, List.set_cons_succ, List.set_cons_zero]
  refine rg_call 43 _ rfl (vs := [.agg (bvs secret).toArray]) rfl (fun _ _ => rfl) (v := .agg (bvs l2).toArray) (fun w' hb ht => C2.out w') ?_
  try simp only [Act.put]
  try simp only [List.setIfInBounds_toArray, List.set_cons_succ, List.set_cons_zero]
  refine rg_call 41 _ rfl (vs := [.agg (bvs l2).toArray]) rfl (fun _ _ => rfl) (v := .agg (bvs p2).toArray) (fun w' hb ht => D2.out w') ?_
  try simp only [Act.put]
  try simp only [List.setIfInBounds_toArray, List.set_cons_succ, List.set_cons_zero]
  refine rg_build rfl (ps := [(0, .int .u64 (g : Int)), (1, .agg (bvs p1).toArray), (2, .agg (bvs p2).toArray)]) rfl BK1.out ?_
  try simp only [Act.put]
  try simp only [List.setIfInBounds_toArray, List.set_cons_succ, List.set_cons_zero]
  intro w3 hb hfs hnd hown
  have F3 := Lib.hid (F2.out.later hb)
  clear hb hfs hnd hown F2
  simp only [List.drop_succ_cons, List.drop_zero]
  try simp only [Act.put]
  try simp only [List.setIfInBounds_toArray, List.set_cons_succ, List.set_cons_zero]
  have T2 : Hid True := trivial
  go_wp2_with (have hx_ := T2; refine s_store F3.out rfl rfl 0 rfl rfl (KeyV.mk g p1 p2).cs rfl (by rw [KeyV.size OK.out]; rfl) (by rw [KeyV.size OK.out]; kernel_rfl) (KeyV.cells _) ?_; clear hx_ T2; intro w4 h1; have F4 := Lib.hid h1; clear h1 F3; have T3 : Hid True := trivial)
  exact bodyPost_ret (v := .agg (KeyV.mk g p1 p2).cs) (by simp [results, Tryz.results17, asAddr]; exact retKey OK.out (F4.out.mem (i := 0) rfl)) rfl ⟨rfl, F4.out.below⟩
end Go.Proofs.YtnhdepmalejclaaGreatDoor

namespace Go.Proofs.YtnhdepmalejclaaGreatDoor
open Go.RowKit
def forceI {α : Type} (x : Int) (f : Int → α) : α := match x with
  | .ofNat n => forceN n fun n => f (Int.ofNat n)
  | .negSucc n => f (Int.negSucc n)
theorem forceI_eq {α : Type} (x : Int) (f : Int → α) : forceI x f = f x := by cases x <;> simp [forceI, forceN_eq]
def forceR8 {α : Type} (X : R8) (f : R8 → α) : α := forceI X.a fun a => forceI X.c fun c => forceI X.d fun d => forceI X.e fun e => forceI X.f fun f' => forceI X.g fun g => forceI X.i fun i => forceI X.j fun j => f ⟨a, c, d, e, f', g, i, j⟩
theorem forceR8_eq {α : Type} (X : R8) (f : R8 → α) : forceR8 X f = f X := by simp only [forceR8, forceI_eq]
/-- A schedule, from its latest word back. -/
def schK (f : Nat → List Int → Int) : Nat → Nat → List Int → List Int
  | 0, _, R => R
  | n + 1, t, R => forceI (f t R) fun x => schK f n (t + 1) (x :: R)
theorem schK_eq (f : Nat → List Int → Int) (S : Nat → List Int) (hS : ∀ t, S (t + 1) = S t ++ [f t (S t).reverse]) : ∀ (n t : Nat), schK f n t (S t).reverse = (S (t + n)).reverse
  | 0, _ => rfl
  | n + 1, t => by
    rw [schK, forceI_eq, show f t (S t).reverse :: (S t).reverse = (S (t + 1)).reverse by rw [hS t, List.reverse_append]; rfl, schK_eq f S hS n (t + 1), show t + 1 + n = t + (n + 1) by omega]
/-- Rounds. -/
def rouK (g : R8 → Int → Int → R8) : List Int → List Int → R8 → R8
  | k :: ks, w :: ws, X => forceR8 (g X k w) fun Y => rouK g ks ws Y
  | _, _, X => X
theorem rouK_eq (g : R8 → Int → Int → R8) (K W : List Int) (R : R8) (rr : Nat → R8) (h0 : rr 0 = R) (hS : ∀ n, rr (n + 1) = g (rr n) (K.getD n 0) (W.getD n 0)) (hl : W.length = K.length) : rouK g K W R = rr K.length := by
  have key : ∀ (n t : Nat), n + t = K.length → rouK g (K.drop t) (W.drop t) (rr t) = rr K.length := by
    intro n
    induction n with
    | zero =>
      intro t ht
      rw [List.drop_eq_nil_of_le (by omega), show t = K.length by omega]
      rfl
    | succ n ih =>
      intro t ht
      have hk : t < K.length := by omega
      have hw : t < W.length := by omega
      rw [List.drop_eq_getElem_cons hk, List.drop_eq_getElem_cons hw, rouK, forceR8_eq]
      have h1 := hS t
      rw [List.getD, List.getD, List.getElem?_eq_getElem hk, List.getElem?_eq_getElem hw] at h1
      simp only [Option.getD_some] at h1
      rw [← h1]
      exact ih (t + 1) (by omega)
  have h1 := key K.length 0 (by omega)
  rw [h0] at h1
  simpa using h1
theorem rev_at (S : List Int) (t k : Nat) (hl : S.length = t) (h1 : 1 ≤ k) (h2 : k ≤ t) : S.getD (t - k) 0 = S.reverse.getD (k - 1) 0 := by
  rw [List.getD, List.getD, List.getElem?_reverse (by omega), show S.length - 1 - (k - 1) = t - k by omega]
def fP256 (l : List UInt8) (t : Nat) (R : List Int) : Int := if t < 16 then IntKind.u32.wrap (wordI ((l.drop (4 * t)).take 4)) else (sig1 (R.getD 1 0) + R.getD 6 0 + sig0 (R.getD 14 0) + R.getD 15 0) % 4294967296
theorem schedL_step (l : List UInt8) (t : Nat) : schedL l (t + 1) = schedL l t ++ [fP256 l t (schedL l t).reverse] := by
  rw [schedL, fP256]
  by_cases h : t < 16
  · rw [if_pos h, if_pos h]
  · rw [if_neg h, if_neg h, rev_at _ t 2 (schedL_len l t) (by omega) (by omega), rev_at _ t 7 (schedL_len l t) (by omega) (by omega), rev_at _ t 15 (schedL_len l t) (by omega) (by omega), rev_at _ t 16 (schedL_len l t) (by omega) (by omega)]
def blockK (K : List Int) (R : R8) (l : List UInt8) : R8 := addR R (rouK rnd K (schK (fP256 l) 64 0 []).reverse R)
theorem blockK_eq (K : List Int) (hK : K.length = 64) (R : R8) (l : List UInt8) : blockK K R l = blockF K R l := by
  unfold blockK blockF
  have h1 := schK_eq (fP256 l) (schedL l) (schedL_step l) 64 0
  have h2 : (schedL l 0).reverse = [] := rfl
  rw [h2, Nat.zero_add] at h1
  rw [h1, List.reverse_reverse, rouK_eq rnd K (schedL l 64) R (rnds K (schedL l 64) R) rfl (fun n => rfl) (by rw [schedL_len, hK]), hK]
def stK (K : List Int) (m : List UInt8) : Nat → R8
  | 0 => z8
  | i + 1 => forceR8 (stK K m i) fun X => forceR8 (blockK K X ((m.drop (64 * i)).take 64)) fun Y => Y
theorem stK_eq (K : List Int) (hK : K.length = 64) (m : List UInt8) : ∀ i, stK K m i = stN K m i
  | 0 => rfl
  | i + 1 => by rw [stK, forceR8_eq, forceR8_eq, blockK_eq K hK, stK_eq K hK m i, stN]
def shaK (K : List Int) (m : List UInt8) : List UInt8 := outB (stK K (m ++ padF m.length) ((m ++ padF m.length).length / 64)) 8
theorem shaK_eq (K : List Int) (hK : K.length = 64) (m : List UInt8) : shaK K m = sumF K m := by
  unfold shaK sumF stF
  rw [stK_eq K hK]
def sec1 : List UInt8 := 1 :: List.replicate 31 0
end Go.Proofs.YtnhdepmalejclaaGreatDoor

namespace Go.Proofs.YtnhdepmalejclaaGreatDoor
open Go.RowKit
def fP512 (l : List UInt8) (t : Nat) (R : List Int) : Int := if t < 16 then wordI ((l.drop (8 * t)).take 8) else IntKind.u64.wrap (IntKind.u64.wrap (IntKind.u64.wrap (sigQ1 (R.getD 1 0) + R.getD 6 0) + sigQ0 (R.getD 14 0)) + R.getD 15 0)
def fR256 (l : List UInt8) (t : Nat) (R : List Int) : Int := if t < 16 then rwrd (byR l (4 * t)) (byR l (4 * t + 1)) (byR l (4 * t + 2)) (byR l (4 * t + 3)) else ((rsig1 (R.getD 1 0) + R.getD 6 0 + rsig0 (R.getD 14 0)) % 4294967296 + R.getD 15 0) % 4294967296
def fR512 (l : List UInt8) (t : Nat) (R : List Int) : Int := if t < 16 then rprt l t 8 else IntKind.u64.wrap (IntKind.u64.wrap (IntKind.u64.wrap (rsigq1 (R.getD 1 0) + R.getD 6 0) + rsigq0 (R.getD 14 0)) + R.getD 15 0)
theorem schedQ_step (l : List UInt8) (t : Nat) : schedQ l (t + 1) = schedQ l t ++ [fP512 l t (schedQ l t).reverse] := by
  rw [schedQ, fP512]
  by_cases h : t < 16
  · rw [if_pos h, if_pos h]
  · rw [if_neg h, if_neg h, rev_at _ t 2 (schedQ_len l t) (by omega) (by omega), rev_at _ t 7 (schedQ_len l t) (by omega) (by omega), rev_at _ t 15 (schedQ_len l t) (by omega) (by omega), rev_at _ t 16 (schedQ_len l t) (by omega) (by omega)]
def blockQK (K : List Int) (R : R8) (l : List UInt8) : R8 := addQ R (rouK rndQ K (schK (fP512 l) 80 0 []).reverse R)
theorem blockQK_eq (K : List Int) (hK : K.length = 80) (R : R8) (l : List UInt8) : blockQK K R l = blockQ K R l := by
  unfold blockQK blockQ
  have h1 := schK_eq (fP512 l) (schedQ l) (schedQ_step l) 80 0
  have h2 : (schedQ l 0).reverse = [] := rfl
  rw [h2, Nat.zero_add] at h1
  rw [h1, List.reverse_reverse, rouK_eq rndQ K (schedQ l 80) R (rndsQ K (schedQ l 80) R) rfl (fun n => rfl) (by rw [schedQ_len, hK]), hK]
theorem rsched_step (l : List UInt8) (t : Nat) : rsched l (t + 1) = rsched l t ++ [fR256 l t (rsched l t).reverse] := by
  rw [rsched, fR256]
  by_cases h : t < 16
  · rw [if_pos h, if_pos h]
  · rw [if_neg h, if_neg h, rev_at _ t 2 (rsched_len l t) (by omega) (by omega), rev_at _ t 7 (rsched_len l t) (by omega) (by omega), rev_at _ t 15 (rsched_len l t) (by omega) (by omega), rev_at _ t 16 (rsched_len l t) (by omega) (by omega)]
def rblockK (R : R8) (l : List UInt8) : R8 := addR R (rouK rrnd kR256 (schK (fR256 l) 64 0 []).reverse R)
theorem rblockK_eq (R : R8) (l : List UInt8) : rblockK R l = rblock R l := by
  unfold rblockK rblock
  have h1 := schK_eq (fR256 l) (rsched l) (rsched_step l) 64 0
  have h2 : (rsched l 0).reverse = [] := rfl
  rw [h2, Nat.zero_add] at h1
  rw [h1, List.reverse_reverse, rouK_eq rrnd kR256 (rsched l 64) R (rrnds kR256 (rsched l 64) R) rfl (fun n => rfl) (by rw [rsched_len, (show kR256.length = 64 from rfl)]), (show kR256.length = 64 from rfl)]
theorem rschedq_step (l : List UInt8) (t : Nat) : rschedq l (t + 1) = rschedq l t ++ [fR512 l t (rschedq l t).reverse] := by
  rw [rschedq, fR512]
  by_cases h : t < 16
  · rw [if_pos h, if_pos h]
  · rw [if_neg h, if_neg h, rev_at _ t 2 (rschedq_len l t) (by omega) (by omega), rev_at _ t 7 (rschedq_len l t) (by omega) (by omega), rev_at _ t 15 (rschedq_len l t) (by omega) (by omega), rev_at _ t 16 (rschedq_len l t) (by omega) (by omega)]
def rblockqK (R : R8) (l : List UInt8) : R8 := addQ R (rouK rrndq kR512 (schK (fR512 l) 80 0 []).reverse R)
theorem rblockqK_eq (R : R8) (l : List UInt8) : rblockqK R l = rblockq R l := by
  unfold rblockqK rblockq
  have h1 := schK_eq (fR512 l) (rschedq l) (rschedq_step l) 80 0
  have h2 : (rschedq l 0).reverse = [] := rfl
  rw [h2, Nat.zero_add] at h1
  rw [h1, List.reverse_reverse, rouK_eq rrndq kR512 (rschedq l 80) R (rrndsq kR512 (rschedq l 80) R) rfl (fun n => rfl) (by rw [rschedq_len, (show kR512.length = 80 from rfl)]), (show kR512.length = 80 from rfl)]
def runQK (K : List Int) (R : R8) (m : List UInt8) : Nat → R8
  | 0 => R
  | i + 1 => forceR8 (runQK K R m i) fun X => forceR8 (blockQK K X (m.drop (128 * i))) fun Y => Y
theorem runQK_eq (K : List Int) (hK : K.length = 80) (R : R8) (m : List UInt8) : ∀ i, runQK K R m i = runQ K R m i
  | 0 => rfl
  | i + 1 => by rw [runQK, forceR8_eq, forceR8_eq, blockQK_eq K hK, runQK_eq K hK R m i, runQ]
def sha5K (K : List Int) (m : List UInt8) : List UInt8 := forceR8 (runQK K z8q m (m.length / 128)) fun X => outQ (runQK K X (tailQ m (sizeQ m)) (sizeQ m / 128)) 8
theorem sha5K_eq (K : List Int) (hK : K.length = 80) (m : List UInt8) : sha5K K m = sum512F K m := by
  unfold sha5K sum512F
  rw [forceR8_eq, runQK_eq K hK, runQK_eq K hK]
def rrunK (m : List UInt8) : Nat → R8
  | 0 => rini
  | i + 1 => forceR8 (rrunK m i) fun X => forceR8 (rblockK X (m.drop (64 * i))) fun Y => Y
theorem rrunK_eq (m : List UInt8) : ∀ i, rrunK m i = rrun m i
  | 0 => rfl
  | i + 1 => by rw [rrunK, forceR8_eq, forceR8_eq, rblockK_eq, rrunK_eq m i, rrun]
def rsha2K (l : List UInt8) : List UInt8 := forceR8 (rrunK (padR l 64 8) ((padR l 64 8).length / 64)) fun X => (List.range 32).map (rout X)
theorem rsha2K_eq (l : List UInt8) : rsha2K l = rsum256 l := by unfold rsha2K rsum256; rw [forceR8_eq, rrunK_eq]
def rrunqK (m : List UInt8) : Nat → R8
  | 0 => riniq
  | i + 1 => forceR8 (rrunqK m i) fun X => forceR8 (rblockqK X (m.drop (128 * i))) fun Y => Y
theorem rrunqK_eq (m : List UInt8) : ∀ i, rrunqK m i = rrunq m i
  | 0 => rfl
  | i + 1 => by rw [rrunqK, forceR8_eq, forceR8_eq, rblockqK_eq, rrunqK_eq m i, rrunq]
def rsha5K (l : List UInt8) : List UInt8 := forceR8 (rrunqK (padR l 128 16) ((padR l 128 16).length / 128)) fun X => (List.range 64).map (routq X)
theorem rsha5K_eq (l : List UInt8) : rsha5K l = rsum512 l := by unfold rsha5K rsum512; rw [forceR8_eq, rrunqK_eq]
end Go.Proofs.YtnhdepmalejclaaGreatDoor
