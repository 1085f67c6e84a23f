/- The texts N10a N10 of this work, merged by wip/merge.py. No conditions. -/
import Derived.Test.YtbpgbihcihnieaaQN7
namespace Go.Proofs.Ytbpgbihcihnieaa
open Go.RowKit
def chunk (b : List UInt8) (k : Nat) : List UInt8 := (b.drop (k * 66)).take 66
def nodeN (b : List UInt8) (k : Nat) : Nat := (b.getD (k * 66) 0).toNat * 256 + (b.getD (k * 66 + 1) 0).toNat
def nodeAt (b : List UInt8) (k : Nat) : NodeV := ⟨(nodeN b k : Int), (b.drop (k * 66 + 2)).take 32, (b.drop (k * 66 + 34)).take 32⟩
def nodesN (b : List UInt8) (n : Nat) : List NodeV := (List.range n).map (nodeAt b)
def nodesOK (b : List UInt8) : Bool := decide (b.length % 66 = 0) && (List.range (b.length / 66)).all fun k => decide (nodeN b k ≤ 256)
def nodesOf (b : List UInt8) : List NodeV := if nodesOK b then nodesN b (b.length / 66) else []
theorem nodeN_lt (b : List UInt8) (k : Nat) : nodeN b k < 65536 := by
  have h1 := (b.getD (k * 66) 0).toNat_lt
  have h2 := (b.getD (k * 66 + 1) 0).toNat_lt
  unfold nodeN
  omega
theorem nodeAt_ok {b : List UInt8} {k : Nat} (h : k * 66 + 66 ≤ b.length) : (nodeAt b k).ok := by
  have h1 := nodeN_lt b k
  refine ⟨⟨?_, ?_⟩, ?_, ?_⟩
  · show -9223372036854775808 ≤ (nodeN b k : Int); omega
  · show (nodeN b k : Int) ≤ 9223372036854775807; omega
  · show ((b.drop (k * 66 + 2)).take 32).length = 32
    rw [List.length_take, List.length_drop]; omega
  · show ((b.drop (k * 66 + 34)).take 32).length = 32
    rw [List.length_take, List.length_drop]; omega
theorem nodesN_succ (b : List UInt8) (n : Nat) : nodesN b (n + 1) = nodesN b n ++ [nodeAt b n] := by
  unfold nodesN
  rw [List.range_succ, List.map_append]
  rfl
theorem nodesN_length (b : List UInt8) (n : Nat) : (nodesN b n).length = n := by simp [nodesN]
theorem nodesN_good {b : List UInt8} {n : Nat} (h : ∀ k, k < n → nodeN b k ≤ 256) : nodesG (nodesN b n) = true := by
  unfold nodesG nodesN
  rw [List.all_map, List.all_eq_true]
  intro k hk
  have h1 := h k (List.mem_range.1 hk)
  show (decide (0 ≤ ((nodeN b k : Nat) : Int)) && decide (((nodeN b k : Nat) : Int) ≤ 256)) = true
  rw [decide_eq_true (by omega), decide_eq_true (by omega)]
  rfl
theorem nodeB_at {b : List UInt8} {k : Nat} (h : k * 66 + 66 ≤ b.length) : nodeB (nodeAt b k) = chunk b k := by
  apply List.ext_getElem?
  intro i
  have h0 := (b.getD (k * 66) 0).toNat_lt
  have h1 := (b.getD (k * 66 + 1) 0).toNat_lt
  unfold nodeB nodeAt chunk
  simp only [Int.toNat_natCast]
  have e0 : UInt8.ofNat (nodeN b k / 256) = b.getD (k * 66) 0 := by
    apply UInt8.toNat_inj.1
    rw [UInt8.toNat_ofNat']
    unfold nodeN
    omega
  have e1 : UInt8.ofNat (nodeN b k) = b.getD (k * 66 + 1) 0 := by
    apply UInt8.toNat_inj.1
    rw [UInt8.toNat_ofNat']
    unfold nodeN
    omega
  rw [e0, e1, List.getElem?_take, List.getElem?_drop]
  match i with
  | 0 => simp [List.getD_eq_getElem?_getD, List.getElem?_eq_getElem (show k * 66 < b.length by omega)]
  | 1 => simp [List.getD_eq_getElem?_getD, List.getElem?_eq_getElem (show k * 66 + 1 < b.length by omega)]
  | i + 2 =>
    rw [List.getElem?_append_right (by simp)]
    simp only [List.length_cons, List.length_nil, Nat.add_sub_cancel]
    by_cases h32 : i < 32
    · rw [List.getElem?_append_left (by rw [List.length_take, List.length_drop]; omega), List.getElem?_take, if_pos h32, List.getElem?_drop, if_pos (by omega)]
      congr 1; omega
    · have hl : ((b.drop (k * 66 + 2)).take 32).length = 32 := by rw [List.length_take, List.length_drop]; omega
      rw [List.getElem?_append_right (by rw [hl]; omega), hl, List.getElem?_take, List.getElem?_drop]
      by_cases h64 : i - 32 < 32
      · rw [if_pos h64, if_pos (by omega)]; congr 1; omega
      · rw [if_neg h64, if_neg (by omega)]
theorem chunk_next (b : List UInt8) (k : Nat) : b.take (k * 66) ++ chunk b k = b.take ((k + 1) * 66) := by
  unfold chunk
  rw [show (k + 1) * 66 = k * 66 + 66 from by omega, List.take_add]
theorem nodesN_bytes {b : List UInt8} : ∀ n : Nat, n * 66 ≤ b.length → (nodesN b n).flatMap nodeB = b.take (n * 66)
  | 0, _ => by simp [nodesN]
  | n + 1, h => by
    rw [nodesN_succ, List.flatMap_append, nodesN_bytes n (by omega)]
    simp only [List.flatMap_cons, List.flatMap_nil, List.append_nil]
    rw [nodeB_at (by omega), chunk_next]
/-- Bytes that are nodes' bytes are written as they stood. -/
theorem nodes_back {b : List UInt8} (h : nodesOK b = true) : nodesG (nodesOf b) = true ∧ nodesB (nodesOf b) = b := by
  have h' := h
  unfold nodesOK at h'
  rw [Bool.and_eq_true, decide_eq_true_eq, List.all_eq_true] at h'
  have hg : nodesG (nodesN b (b.length / 66)) = true := nodesN_good fun k hk => by have := h'.2 k (List.mem_range.2 hk); simpa using this
  unfold nodesOf
  rw [if_pos h]
  refine ⟨hg, ?_⟩
  unfold nodesB
  rw [if_pos hg, nodesN_bytes _ (by omega), List.take_of_length_le (by omega)]
theorem nodeB_split {v : NodeV} (hv : v.ok) (hg : v.good = true) {b : List UInt8} {k : Nat} (h : ∀ i, i < 66 → b[k * 66 + i]? = (nodeB v)[i]?) : nodeAt b k = v := by
  simp only [NodeV.good, Bool.and_eq_true, decide_eq_true_eq] at hg
  obtain ⟨g0, g1⟩ := hg
  have h0 := h 0 (by omega)
  have h1 := h 1 (by omega)
  have hn : ((nodeN b k : Nat) : Int) = v.n := by
    unfold nodeN
    rw [List.getD_eq_getElem?_getD, List.getD_eq_getElem?_getD, show k * 66 = k * 66 + 0 from rfl, h0, show k * 66 + 0 + 1 = k * 66 + 1 from rfl, h1]
    simp only [nodeB, List.cons_append, List.nil_append, List.getElem?_cons_zero, List.getElem?_cons_succ, Option.getD_some, UInt8.toNat_ofNat']
    omega
  have hpart : ∀ o, o + 32 ≤ 66 → 2 ≤ o → (b.drop (k * 66 + o)).take 32 = (((v.p ++ v.h).drop (o - 2)).take 32) := fun o ho h2 => by
    apply List.ext_getElem?
    intro i
    rw [List.getElem?_take, List.getElem?_take, List.getElem?_drop, List.getElem?_drop]
    by_cases hi : i < 32
    · rw [if_pos hi, if_pos hi, show k * 66 + o + i = k * 66 + (o + i) from by omega, h (o + i) (by omega)]
      unfold nodeB
      rw [List.getElem?_append_right (by simp; omega)]
      congr 1
      simp
      omega
    · rw [if_neg hi, if_neg hi]
  have e2 := hpart 2 (by omega) (by omega)
  have e34 := hpart 34 (by omega) (by omega)
  unfold nodeAt
  rw [hn, e2, e34]
  obtain ⟨n, p, hh⟩ := v
  have hp : p.length = 32 := hv.p
  have hh' : hh.length = 32 := hv.h
  simp only
  congr 1
  · simp only [Nat.sub_self, List.drop_zero]
    rw [List.take_append_of_le_length (by omega), List.take_of_length_le (by omega)]
  · rw [show 34 - 2 = p.length from by omega, List.drop_left, List.take_of_length_le (by omega)]
theorem flatB_at : ∀ {ns : List NodeV}, (∀ v ∈ ns, v.ok) → ∀ (k : Nat) (hk : k < ns.length) (i : Nat), i < 66 → (ns.flatMap nodeB)[k * 66 + i]? = (nodeB ns[k])[i]?
  | [], _, k, hk, _, _ => by simp at hk
  | v :: ns, h, k, hk, i, hi => by
    have hv : (nodeB v).length = 66 := nodeB_length (h v (by simp))
    rw [List.flatMap_cons]
    cases k with
    | zero => rw [List.getElem?_append_left (by omega)]; simp
    | succ k =>
      rw [List.getElem?_append_right (by omega), hv, show (k + 1) * 66 + i - 66 = k * 66 + i from by omega]
      exact flatB_at (fun u hu => h u (List.mem_cons_of_mem _ hu)) k (by simpa using hk) i hi
/-- Nodes that were written are read as they were. -/
theorem nodes_forth {ns : List NodeV} (hok : ∀ v ∈ ns, v.ok) (hg : nodesG ns = true) : nodesOK (nodesB ns) = true ∧ nodesOf (nodesB ns) = ns := by
  have hb : nodesB ns = ns.flatMap nodeB := by unfold nodesB; rw [if_pos hg]
  have hl : (nodesB ns).length = 66 * ns.length := by rw [hb, flatB_length hok]
  have hgood : ∀ v ∈ ns, v.good = true := fun v hv => List.all_eq_true.1 hg v hv
  have hat : ∀ (k : Nat) (hk : k < ns.length), nodeAt (nodesB ns) k = ns[k] := fun k hk => nodeB_split (hok _ (List.getElem_mem hk)) (hgood _ (List.getElem_mem hk)) (fun i hi => by rw [hb]; exact flatB_at hok k hk i hi)
  have hdiv : (nodesB ns).length / 66 = ns.length := by omega
  have hOK : nodesOK (nodesB ns) = true := by
    unfold nodesOK
    rw [Bool.and_eq_true, decide_eq_true_eq, List.all_eq_true, hdiv]
    refine ⟨by omega, fun k hk => ?_⟩
    have hk' := List.mem_range.1 hk
    have h1 := hgood _ (List.getElem_mem hk')
    rw [← hat k hk'] at h1
    simp only [NodeV.good, Bool.and_eq_true, decide_eq_true_eq] at h1
    have h2 : ((nodeN (nodesB ns) k : Nat) : Int) ≤ 256 := h1.2
    simp only [decide_eq_true_eq]
    omega
  refine ⟨hOK, ?_⟩
  unfold nodesOf
  rw [if_pos hOK, hdiv]
  apply List.ext_getElem
  · rw [nodesN_length]
  · intro k h1 h2
    have h3 : (nodesN (nodesB ns) ns.length)[k] = nodeAt (nodesB ns) k := by simp [nodesN]
    rw [h3]
    exact hat k h2
end Go.Proofs.Ytbpgbihcihnieaa

namespace Go.Proofs.Ytbpgbihcihnieaa
open Go.RowKit
theorem ninfo : (Try.prog.info? 118).map (fun i => (i.zero, i.size, i.bytes)) = some (some (.agg (NodeV.mk 0 (List.replicate 32 0) (List.replicate 32 0)).cs), 65, 72) := by kernel_rfl
set_option maxRecDepth 100000 in
theorem built_node0 (ps : List (Nat × Value)) : (Try.prog).built 118 ps = Instr.fill ([(0, 1), (1, 32), (33, 32)].toArray[·]?) (NodeV.mk 0 (List.replicate 32 0) (List.replicate 32 0)).cs ps := by kernel_rfl
theorem built_node (n : Int) : (Try.prog).built 118 [(0, .int .i64 n)] = some (NodeV.mk n (List.replicate 32 0) (List.replicate 32 0)).cs := by
  rw [built_node0]
  refine (fill_seg [] [.int .i64 0] [.int .i64 n] (bvs (List.replicate 32 0) ++ bvs (List.replicate 32 0)) rfl rfl rfl rfl).trans ?_
  rw [Instr.fill]
  rfl
/-- The two parts of a node, copied in. -/
theorem node_copied {n : Int} {x y : List UInt8} (hx : x.length = 32) (hy : y.length = 32) :
    ((NodeV.mk n (List.replicate 32 0) (List.replicate 32 0)).cs.toList.take 1 ++ bvs (x.take 32) ++ (NodeV.mk n (List.replicate 32 0) (List.replicate 32 0)).cs.toList.drop (1 + Nat.min 32 32)).toArray = (NodeV.mk n x (List.replicate 32 0)).cs ∧
    ((NodeV.mk n x (List.replicate 32 0)).cs.toList.take 33 ++ bvs (y.take 32) ++ (NodeV.mk n x (List.replicate 32 0)).cs.toList.drop (33 + Nat.min 32 32)).toArray = (NodeV.mk n x y).cs := by
  have z : (bvs (List.replicate 32 0)).length = 32 := by rw [bvs_length]; rfl
  refine ⟨?_, ?_⟩
  · have e : (NodeV.mk n (List.replicate 32 0) (List.replicate 32 0)).cs.toList = [.int .i64 n] ++ (bvs (List.replicate 32 0) ++ bvs (List.replicate 32 0)) := rfl
    rw [show Nat.min 32 32 = 32 from rfl, e, List.take_of_length_le (l := x) (by omega), seg_put (off := 1) (n := 32) rfl z (by rw [bvs_length, hx])]
    rfl
  · have e : (NodeV.mk n x (List.replicate 32 0)).cs.toList = ([.int .i64 n] ++ bvs x) ++ (bvs (List.replicate 32 0) ++ []) := by
      rw [List.append_nil, List.append_assoc]; rfl
    rw [show Nat.min 32 32 = 32 from rfl, e, List.take_of_length_le (l := y) (by omega), seg_put (off := 33) (n := 32) (by rw [List.length_append, bvs_length, hx]; rfl) z (by rw [bvs_length, hy])]
    rw [List.append_nil, List.append_assoc]
    rfl
theorem or2 {a b : Nat} (ha : a < 256) (hb : b < 256) : bits BinOp.or IntKind.i64 ((a : Int) * 256) (b : Int) = ((a * 256 + b : Nat) : Int) := by
  have e : ((a : Int) * 256) = ((a * 2 ^ 8 : Nat) : Int) := by omega
  rw [e, i64_or_nat _ _ (by omega) (by omega), or_add a b 8 (by omega)]
theorem ownR_frm {w w' : World} {base g : Nat} {e : TypeId} {s n : Nat} {v : Value} {xs : List Value} (h : w.ownsRow base e s v n xs) (hf : Frm [g] w w') (hne : v.ownBlock ≠ some g) : w'.ownsRow base e s v n xs :=
  World.ownsRow.kept h (row := some g) ⟨hf.os, hf.tape, hf.output, hf.size, fun k hk hn => hf.block k hk (by simpa using fun e => hn (by rw [e]))⟩ (.inr hne)
theorem nodesV_snoc (ns : List NodeV) (v : NodeV) : nodesV (ns ++ [v]) = nodesV ns ++ v.vs := by simp [nodesV]
theorem nodesOK_no {b : List UInt8} {k : Nat} (hk : k < b.length / 66) (h : 256 < nodeN b k) : nodesOK b = false := by
  unfold nodesOK
  rw [Bool.and_eq_false_iff]
  refine .inr ?_
  rw [List.all_eq_false]
  exact ⟨k, List.mem_range.2 hk, by simp; omega⟩
theorem nodesOK_yes {b : List UInt8} (hm : b.length % 66 = 0) (h : ∀ j, j < b.length / 66 → nodeN b j ≤ 256) : nodesOK b = true := by
  unfold nodesOK
  rw [decide_eq_true hm, Bool.true_and, List.all_eq_true]
  intro j hj
  simpa using h j (List.mem_range.1 hj)
def RNPost (b : List UInt8) (w : World) (e : Ending) (w' : World) : Prop := ∃ v, e = .returned (.tuple #[v, .bool (nodesOK b)]) ∧ w'.ownsRow w.heap.size 118 65 v (nodesOf b).length (nodesV (nodesOf b)) ∧ Below w.heap.size w w'
set_option maxRecDepth 100000 in
set_option maxHeartbeats 4000000 in
theorem rreadNodes_any (A : Option Addr) (c : Nat) (b : List UInt8) (w : World) (hr : Reads w w.heap.size 1 A b.length (bvs b)) (hc : b.length ≤ c) (hm : b.length ≤ 1099511627776) : Calls Try.prog 66 #[.slice A b.length c] w (RNPost b w) := by
  have HR := Lib.hid hr
  have HC := Lib.hid hc
  have HM := Lib.hid hm
  have hmI : (b.length : Int) ≤ 1099511627776 := by omega
  have hcI : (b.length : Int) ≤ (c : Int) := by omega
  clear hr hc hm
  by_cases hmod : b.length % 66 = 0
  · have hM : ((b.length : Int) % 66 != 0) = false := by simp; omega
    have HMod := Lib.hid hmod
    obtain ⟨zs, hzz, hzl⟩ := zeroNode
    have ZS := Lib.hid hzz
    clear hmod hzz
    go_enter Try.func66, Try.ntmps66
    go_wp2
    go_loopw [4, 5] (fun v i wr => ∃ k p : Nat, p = k * 66 ∧ p ≤ b.length ∧ i = .int .i64 (p : Int) ∧ Hid (wr.ownsRow w.heap.size 118 65 v k (nodesV (nodesN b k)) ∧ Below w.heap.size w wr ∧ ∀ j, j < k → nodeN b j ≤ 256)) (fun _ i _ => b.length - (intOf i).toNat)
    case atStart => exact ⟨0, 0, rfl, Nat.zero_le _, rfl, World.ownsRow_nil w _ _ 65, Below.refl _ _, fun j h => absurd h (Nat.not_lt_zero _)⟩
    case round =>
      obtain ⟨k, p, hkp, hp, rfl, hO⟩ := hrel
      have HKP := Lib.hid hkp
      by_cases hlt : p < b.length
      · have hlt' : (p : Int) < (b.length : Int) := by omega
        have hp0 : (0 : Int) ≤ (p : Int) := by omega
        have h66 : p + 66 ≤ b.length := by have h_ := HMod.out; omega
        have h66I : (p : Int) + 66 ≤ (b.length : Int) := by omega
        have h1I : (p : Int) + 1 < (b.length : Int) := by omega
        obtain ⟨b0, o0, hA, hb0, hall⟩ := flat_open (size := 1) (n := b.length) HR.out (by omega) (by decide)
        subst hA
        have HALL := Lib.hid hall
        have HB0 := Lib.hid hb0
        obtain ⟨x0, hx0⟩ : ∃ x, x = b.getD p 0 := ⟨_, rfl⟩
        obtain ⟨x1, hx1⟩ : ∃ x, x = b.getD (p + 1) 0 := ⟨_, rfl⟩
        have hor := or2 x0.toNat_lt x1.toNat_lt
        have HC0 : Hid (∀ w', Below w.heap.size w w' → w'.cell? ⟨b0, o0 + p, none⟩ = some (.int .u8 (x0.toNat : Int)) ∧ w'.cell? ⟨b0, o0 + (p + 1), none⟩ = some (.int .u8 (x1.toNat : Int))) := fun w' hb' => ⟨hall w' hb' p _ (by rw [hx0]; simp [bvs, bv, List.getD_eq_getElem?_getD, List.getElem?_eq_getElem (show p < b.length by omega)]), hall w' hb' (p + 1) _ (by rw [hx1]; simp [bvs, bv, List.getD_eq_getElem?_getD, List.getElem?_eq_getElem (show p + 1 < b.length by omega)])⟩
        have w0 : (x0.toNat : Int) ≤ 255 := by have := x0.toNat_lt; omega
        have w0' : (0 : Int) ≤ (x0.toNat : Int) := by omega
        have w1' : (x1.toNat : Int) ≤ 255 := by have := x1.toNat_lt; omega
        have w1'' : (0 : Int) ≤ (x1.toNat : Int) := by omega
        obtain ⟨N, hN⟩ : ∃ N, N = x0.toNat * 256 + x1.toNat := ⟨_, rfl⟩
        rw [← hN] at hor
        have HNN : Hid (nodeAt b k = ⟨(N : Int), seg b (p + 2), seg b (p + 34)⟩ ∧ nodeN b k = N) := by
          have h1 : nodeN b k = N := by rw [hN, hx0, hx1, hkp]; rfl
          refine ⟨?_, h1⟩
          unfold nodeAt seg
          rw [h1, hkp]
        have hc2 : ¬ c = p + 2 := by have h_ := HC.out; omega
        have hc34 : ¬ c = p + 34 := by have h_ := HC.out; omega
        have HX := Lib.hid (And.intro hx0 hx1)
        obtain ⟨q0, hq0⟩ : ∃ q : Array Value, q = (NodeV.mk (N : Int) (List.replicate 32 0) (List.replicate 32 0)).cs := ⟨_, rfl⟩
        have HQ0 := Lib.hid hq0
        have QZ : Hid (q0.size = 65) := by show _ = _; rw [hq0]; simp [NodeV.cs, NodeV.vs, bvs_length]
        have HBU : Hid ((Try.prog).built 118 [(0, .int .i64 (N : Int))] = some q0) := by show _ = _; rw [hq0]; exact built_node _
        clear hN hq0
        have H66 := Lib.hid h66
        clear hall hb0 hkp hx0 hx1 h66
        go_wp2
        refine AnyC.startB (fun w' => Below w.heap.size w w') (by kernel_rfl) rfl ?_
        intro w2 hb2 hs2
        clear hs2
        have O2 := Lib.hid (ownR_below hO.out.1 hb2)
        have B2 := Lib.hid (hO.out.2.1.trans (hb2.mono hO.out.2.1.size))
        clear hb2
        apply AnyC.take (i := 0) rfl (by kernel_rfl) rfl
        · intro w' hC K hK
          go_wp2
          exact hK
        · rfl
        apply AnyC.take (i := 1) rfl (by kernel_rfl) rfl
        · intro w' hC K hK
          go_wp2
          exact hK
        · rfl
        apply AnyC.take (i := 2) rfl (by kernel_rfl) rfl
        · intro w' hC K hK
          go_wp2
          exact hK
        · rfl
        apply AnyC.take (i := 3) rfl (by kernel_rfl) rfl
        · intro w' hC K hK
          obtain ⟨cx, _⟩ := HC0.out w' hC
          go_wp2
          exact hK
        · rfl
        apply AnyC.take (i := 4) rfl (by kernel_rfl) rfl
        · intro w' hC K hK
          go_wp2
          exact hK
        · rfl
        apply AnyC.take (i := 5) rfl (by kernel_rfl) rfl
        · intro w' hC K hK
          go_wp2
          exact hK
        · rfl
        apply AnyC.take (i := 6) rfl (by kernel_rfl) rfl
        · intro w' hC K hK
          go_wp2
          exact hK
        · rfl
        apply AnyC.take (i := 7) rfl (by kernel_rfl) rfl
        · intro w' hC K hK
          go_wp2
          exact hK
        · rfl
        apply AnyC.take (i := 8) rfl (by kernel_rfl) rfl
        · intro w' hC K hK
          go_wp2
          exact hK
        · rfl
        apply AnyC.take (i := 9) rfl (by kernel_rfl) rfl
        · intro w' hC K hK
          go_wp2
          exact hK
        · rfl
        apply AnyC.take (i := 10) rfl (by kernel_rfl) rfl
        · intro w' hC K hK
          obtain ⟨_, cx⟩ := HC0.out w' hC
          go_wp2
          exact hK
        · rfl
        apply AnyC.take (i := 11) rfl (by kernel_rfl) rfl
        · intro w' hC K hK
          go_wp2
          exact hK
        · rfl
        apply AnyC.take (i := 12) rfl (by kernel_rfl) rfl
        · intro w' hC K hK
          go_wp2
          exact hK
        · rfl
        apply AnyC.take (i := 13) rfl (by kernel_rfl) rfl
        · intro w' hC K hK
          refine wpList_build_to rfl _ _ rfl [(0, .int .i64 (N : Int))] rfl q0 (by with_reducible exact HBU.out) ?_
          go_wp2
          exact hK
        · rfl
        apply AnyC.solo (i := 14) rfl (by kernel_rfl) B2.out
        go_wp2
        refine ⟨rfl, ?_⟩
        apply AnyC.solo (i := 15) rfl (by kernel_rfl) (B2.out.alloc B2.out.size _)
        refine wpList_store_row rfl _ _ _ rfl w2.heap.size q0 rfl rfl 118 zs (heap_alloc_new w2 _) (by rw [QZ.out]; kernel_rfl) (by rw [QZ.out, ZS.out]) (by rw [HQ0.out]; exact node_one) ?_
        go_wp2
        refine ⟨rfl, ?_⟩
        have RN := Lib.hid (row_new w2 zs q0 118)
        obtain ⟨w3, hw3⟩ : ∃ w3, w3 = (w2.alloc (.cells zs 118)).setRow w2.heap.size q0 := ⟨_, rfl⟩
        rw [← hw3]
        rw [← hw3] at RN
        have O3 := Lib.hid (ownR_below O2.out RN.out.1)
        have B3 := Lib.hid (B2.out.trans (RN.out.1.mono B2.out.size))
        have P3 := Lib.hid RN.out.2.1
        have G0 : Hid (w.heap.size ≤ w2.heap.size) := B2.out.size
        have NE3 : Hid (u4.ownBlock ≠ some w2.heap.size) := fun e => absurd (World.ownsRow.lt O2.out _ e).2 (Nat.lt_irrefl _)
        obtain ⟨g, hg⟩ : ∃ g, g = w2.heap.size := ⟨_, rfl⟩
        rw [← hg] at P3 G0 NE3 ⊢
        clear hw3 hg RN
        refine AnyC.done B3.out (by kernel_rfl) ?_
        go_wp2
        refine AnyC.startB (fun w' => Below w.heap.size w w') (by kernel_rfl) rfl ?_
        intro w4 hb4 hs4
        clear hs4
        have O4 := Lib.hid (ownR_below O3.out hb4)
        have B4 := Lib.hid (B3.out.trans (hb4.mono B3.out.size))
        have P4 := Lib.hid (heap_below P3.out hb4)
        clear hb4
        apply AnyC.take (i := 0) rfl (by kernel_rfl) rfl
        · intro w' hC K hK
          go_wp2
          exact hK
        · rfl
        apply AnyC.take (i := 1) rfl (by kernel_rfl) rfl
        · intro w' hC K hK
          go_wp2
          exact hK
        · rfl
        apply AnyC.take (i := 2) rfl (by kernel_rfl) rfl
        · intro w' hC K hK
          go_wp2
          exact hK
        · rfl
        apply AnyC.take (i := 3) rfl (by kernel_rfl) rfl
        · intro w' hC K hK
          go_wp2
          exact hK
        · rfl
        apply AnyC.take (i := 4) rfl (by kernel_rfl) rfl
        · intro w' hC K hK
          go_wp2
          exact hK
        · rfl
        apply AnyC.take (i := 5) rfl (by kernel_rfl) rfl
        · intro w' hC K hK
          go_wp2
          exact hK
        · rfl
        apply AnyC.take (i := 6) rfl (by kernel_rfl) rfl
        · intro w' hC K hK
          go_wp2
          exact hK
        · rfl
        apply AnyC.take (i := 7) rfl (by kernel_rfl) rfl
        · intro w' hC K hK
          go_wp2
          exact hK
        · rfl
        obtain ⟨w5, hcp, hw5, hfr, hsz⟩ := copy_row (off := 1) (n := 32) (c := 32) (c2 := c - (p + 2)) P4.out (seg_reads (p := p + 2) (b := b0) (off := o0) (by have h_ := H66.out; omega) (Nat.lt_of_lt_of_le HB0.out B4.out.size) (HALL.out w4 B4.out)) (seg_length (by have h_ := H66.out; omega)) (by rw [QZ.out]; decide)
        rw [HQ0.out, (node_copied (y := List.replicate 32 0) (seg_length (bs := b) (p := p + 2) (by have h_ := H66.out; omega)) (by simp)).1] at hw5
        obtain ⟨q1, hq1⟩ : ∃ q : Array Value, q = (NodeV.mk (N : Int) (seg b (p + 2)) (List.replicate 32 0)).cs := ⟨_, rfl⟩
        rw [← hq1] at hw5
        have HQ1 := Lib.hid hq1
        have Q1Z : Hid (q1.size = 65) := by show _ = _; rw [hq1]; simp [NodeV.cs, NodeV.vs, bvs_length, seg_length (bs := b) (p := p + 2) (by have h_ := H66.out; omega)]
        have P5 := Lib.hid hw5
        have B5 := Lib.hid (B4.out.trans (hfr.below B4.out.size (by simp; exact G0.out)))
        have O5 := Lib.hid (ownR_frm O4.out hfr NE3.out)
        clear hq1 hw5 hfr hsz
        apply AnyC.solo (i := 8) rfl (by kernel_rfl) B4.out
        go_wp2
        refine ⟨rfl, ?_⟩
        clear hcp
        refine AnyC.done B5.out (by kernel_rfl) ?_
        go_wp2
        refine AnyC.startB (fun w' => Below w.heap.size w w') (by kernel_rfl) rfl ?_
        intro w6 hb6 hs6
        clear hs6
        have O6 := Lib.hid (ownR_below O5.out hb6)
        have B6 := Lib.hid (B5.out.trans (hb6.mono B5.out.size))
        have P6 := Lib.hid (heap_below P5.out hb6)
        clear hb6
        apply AnyC.take (i := 0) rfl (by kernel_rfl) rfl
        · intro w' hC K hK
          go_wp2
          exact hK
        · rfl
        apply AnyC.take (i := 1) rfl (by kernel_rfl) rfl
        · intro w' hC K hK
          go_wp2
          exact hK
        · rfl
        apply AnyC.take (i := 2) rfl (by kernel_rfl) rfl
        · intro w' hC K hK
          go_wp2
          exact hK
        · rfl
        apply AnyC.take (i := 3) rfl (by kernel_rfl) rfl
        · intro w' hC K hK
          go_wp2
          exact hK
        · rfl
        apply AnyC.take (i := 4) rfl (by kernel_rfl) rfl
        · intro w' hC K hK
          go_wp2
          exact hK
        · rfl
        apply AnyC.take (i := 5) rfl (by kernel_rfl) rfl
        · intro w' hC K hK
          go_wp2
          exact hK
        · rfl
        apply AnyC.take (i := 6) rfl (by kernel_rfl) rfl
        · intro w' hC K hK
          go_wp2
          exact hK
        · rfl
        apply AnyC.take (i := 7) rfl (by kernel_rfl) rfl
        · intro w' hC K hK
          go_wp2
          exact hK
        · rfl
        obtain ⟨w7, hcp, hw7, hfr, hsz⟩ := copy_row (off := 33) (n := 32) (c := 32) (c2 := c - (p + 34)) P6.out (seg_reads (p := p + 34) (b := b0) (off := o0) (by have h_ := H66.out; omega) (Nat.lt_of_lt_of_le HB0.out B6.out.size) (HALL.out w6 B6.out)) (seg_length (by have h_ := H66.out; omega)) (by rw [Q1Z.out]; decide)
        rw [HQ1.out, (node_copied (seg_length (bs := b) (p := p + 2) (by have h_ := H66.out; omega)) (seg_length (bs := b) (p := p + 34) (by have h_ := H66.out; omega))).2, ← HNN.out.1] at hw7
        obtain ⟨q2, hq2⟩ : ∃ q : Array Value, q = (nodeAt b k).cs := ⟨_, rfl⟩
        rw [← hq2] at hw7
        have HQ2 := Lib.hid hq2
        have NOK := Lib.hid (nodeAt_ok (b := b) (k := k) (by have h_ := H66.out; have h2_ := HKP.out; omega))
        have Q2Z : Hid (q2.size = 65) := by show _ = _; rw [hq2]; exact node_size NOK.out
        have P7 := Lib.hid hw7
        have B7 := Lib.hid (B6.out.trans (hfr.below B6.out.size (by simp; exact G0.out)))
        have O7 := Lib.hid (ownR_frm O6.out hfr NE3.out)
        have c70 : w7.cell? ⟨g, 0, none⟩ = some (.int .i64 (N : Int)) := by rw [(node_parts NOK.out (by rw [P7.out, hq2])).1, HNN.out.1]
        clear hq2 hw7 hfr hsz
        apply AnyC.solo (i := 8) rfl (by kernel_rfl) B6.out
        go_wp2
        refine ⟨rfl, ?_⟩
        clear hcp
        refine AnyC.done B7.out (by kernel_rfl) ?_
        by_cases hN : N ≤ 256
        · have hNI : (N : Int) ≤ 256 := by omega
          have HN := Lib.hid hN
          clear hN
          go_wp2_with (first
            | (refine wpList_load_arr rfl _ _ rfl g 0 rfl q2 _ (by with_reducible exact range_row P7.out) Try.underlying118 rfl (by rw [Q2Z.out]; kernel_rfl) ?_)
            | (obtain ⟨i0, hi0, hz0, hz1, hz2⟩ := info_parts ninfo; refine slice1 (cs := q2) (s := 65) rfl rfl rfl Q2Z.out Try.underlying53 hi0 hz0 hz1 (by decide) ?_)
            | (at_builtin; go_must (obtain ⟨i0, hi0, hz0, hz1, hz2⟩ := info_parts ninfo; refine app1 (cs := q2) (n := k) (xs := nodesV (nodesN b k)) (base := w.heap.size) rfl rfl rfl rfl Try.underlying53 hi0 hz0 hz1 hz2 (by rfl) (by decide) (ownR_below O7.out ((Below.refl _ _).alloc (Nat.le_refl _) _)) (heap_alloc_new _ _) Q2Z.out (by rw [HQ2.out]; exact node_one) (by have h_ := HKP.out; have h2_ := HM.out; have h3_ := H66.out; omega) (by have h_ := HKP.out; have h2_ := HM.out; have h3_ := H66.out; omega) (B7.out.alloc B7.out.size _).size ?_; intro v8 w8 hown hg8 hx; have hb8 := below_ownR (B7.out.alloc B7.out.size _) (ownR_below O7.out ((Below.refl _ _).alloc (Nat.le_refl _) _)) hg8; have GG : Hid (w8.ownsRow w.heap.size 118 65 v8 (k + 1) (nodesV (nodesN b (k + 1))) ∧ Below w.heap.size w w8) := ⟨by rw [nodesN_succ, nodesV_snoc, show (nodeAt b k).vs = q2.toList from by rw [HQ2.out]; rfl]; exact hown, hb8⟩; clear hown hg8 hx hb8)))
          go_roundw
          case rel => exact ⟨k + 1, p + 66, by have h_ := HKP.out; omega, H66.out, by go_num, GG.out.1, GG.out.2, fun j hj => by
            rcases Nat.lt_or_ge j k with h' | h'
            · exact hO.out.2.2 j h'
            · obtain rfl : j = k := by omega
              rw [HNN.out.2]; exact HN.out⟩
          case measure => simp [intOf]; omega
        · have hNI : 256 < (N : Int) := by omega
          have HN : Hid (nodesOK b = false) := nodesOK_no (k := k) (by have h_ := H66.out; have h2_ := HKP.out; omega) (by rw [HNN.out.2]; omega)
          clear hN
          go_wp2
          go_ret2
          exact ⟨.slice none 0 0, by rw [HN.out]; rfl, by unfold nodesOf; rw [HN.out]; exact World.ownsRow_nil _ _ _ 65, B7.out⟩
      · obtain rfl : p = b.length := by omega
        have hkd0 : k = b.length / 66 := by omega
        have HKD := Lib.hid hkd0
        have HN : Hid (nodesOK b = true) := nodesOK_yes HMod.out (fun j hj => hO.out.2.2 j (by omega))
        clear hkd0 hkp
        go_wp2
        go_ret2
        have h1 := hO.out.1
        exact ⟨_, by rw [HN.out]; rfl, by unfold nodesOf; rw [HN.out]; rw [if_pos rfl, nodesN_length, ← HKD.out]; exact h1, hO.out.2.1⟩
  · have hM : ((b.length : Int) % 66 != 0) = true := by simp; omega
    have HN : Hid (nodesOK b = false) := by show _ = _; unfold nodesOK; rw [decide_eq_false hmod]; rfl
    clear hmod
    go_enter Try.func66, Try.ntmps66
    go_wp2
    go_ret2
    exact ⟨.slice none 0 0, by rw [HN.out]; rfl, by unfold nodesOf; rw [HN.out]; exact World.ownsRow_nil _ _ _ 65, Below.refl _ _⟩
end Go.Proofs.Ytbpgbihcihnieaa
