/- The texts N7 N8 N9 of this work, merged by wip/merge.py. No conditions. -/
import Derived.Test.YtbpgbihcihnieaaQN6c
import Derived.Great.Ranges
namespace Go.Proofs.Ytbpgbihcihnieaa
open Go.RowKit
/-- A slice of one element is built. -/
theorem slice1 {ops : Array Oper} {rest : List Oper} {o : Oper} {a : Act} {w : World} {Q : Exit → Act → World → Prop} {x : Operand} {cs : Array Value} {t e : TypeId} {s : Nat} {ie : TypeInfo} {z : Value} (hg : o.guard = none) (ho : o.op = .buildSlice t 1 #[(0, x)])
    (hx : a.eval x = .agg cs) (hl : cs.size = s) (hu : Try.prog.underlying t = some (.slice e)) (hie : Try.prog.info? e = some ie) (hz : ie.zero = some z) (hsz : ie.size = s) (hs : 0 < s ∧ s ≤ 1000)
    (h : wpList Try.prog ops Q rest (a.put o.dst (.slice (some ⟨w.heap.size, 0, none⟩) 1 1)) (w.alloc (.cells cs e))) : wpList Try.prog ops Q (o :: rest) a w := by
  refine wpList_buildSlice hg t e 1 _ ho cs ie z hu hie hz (by rw [hsz]; omega) (by rw [hsz]; omega) ?_ h
  simp only [List.map_toArray, List.map_cons, List.map_nil, hx, hsz]
  have := Go.Great.fill_whole (s := s) hs.1 [Value.agg cs] ((Array.range (1 * s)).map (z.cells[· % z.cells.size]!)) (fun v hv => by simp at hv; subst hv; simp [Value.cells, hl]) (by simp)
  refine this.trans ?_
  simp [Value.cells]
theorem oneReads {w : World} {g s : Nat} {cs : Array Value} {t : TypeId} {f : Nat × Nat} (h : w.heap[g]? = some (.cells cs t f)) (hs : cs.size = s) : Reads w w.heap.size s (some ⟨g, 0, none⟩) 1 cs.toList := by
  refine ⟨by simp [hs], fun _ => ⟨_, rfl, lt_of_heap h, fun j u hu => ?_⟩⟩
  rw [add_none, cell_of_row w g _ _ _ _ h, Nat.zero_add]
  simpa using hu
/-- One element more. -/
theorem app1 {ops : Array Oper} {rest : List Oper} {o : Oper} {a : Act} {w : World} {Q : Exit → Act → World → Prop} {sl x : Operand} {base n g : Nat} {v : Value} {xs : List Value} {cs : Array Value} {t e : TypeId} {s y : Nat} {ie : TypeInfo} {z : Value} {f : Nat × Nat}
    (hgd : o.guard = none) (ho : o.op = .call { callee := .builtin .append, args := #[sl, x], argTypes := #[t, t] }) (hs : a.eval sl = v) (hx : a.eval x = .slice (some ⟨g, 0, none⟩) 1 1)
    (hu : Try.prog.underlying t = some (.slice e)) (hie : Try.prog.info? e = some ie) (hz : ie.zero = some z) (hsz : ie.size = s) (hby : ie.bytes = y) (hzs : z.cells.size = s) (hs0 : 0 < s)
    (hown : w.ownsRow base e s v n xs) (hblk : w.heap[g]? = some (.cells cs e f)) (hcs : cs.size = s) (h1 : (cs.all fun u => u.oneCell') = true) (hn : (n + 1) * y ≤ 140737488355328) (hn2 : n + 1 ≤ 140737488355328) (hbase : base ≤ w.heap.size)
    (h : ∀ v' w', w'.ownsRow base e s v' (n + 1) (xs ++ cs.toList) → w.grownBy w' v.ownBlock → (v'.ownBlock = v.ownBlock ∨ v'.ownBlock = some w.heap.size) → wpList Try.prog ops Q rest (a.put o.dst v') w') : wpList Try.prog ops Q (o :: rest) a w :=
  wpList_append_any w hgd sl x t ho base e ie z s y hu hie hz hsz hby hzs hs0 v n xs hs hown w.heap.size _ 1 1 cs.toList hx (oneReads hblk hcs) (fun u hu => by
    have h2 := Array.all_eq_true'.1 h1 u (by simpa using hu)
    exact h2) (by simp only [maxLen]; omega) hn hbase h
theorem hinfo : (Try.prog.info? 44).map (fun i => (i.zero, i.size, i.bytes)) = some (some (.agg (bvs (List.replicate 32 0)).toArray), 32, 32) := by kernel_rfl
end Go.Proofs.Ytbpgbihcihnieaa

namespace Go.Proofs.Ytbpgbihcihnieaa
open Go.RowKit
theorem ownR_below {w w' : World} {base : Nat} {e : TypeId} {s n : Nat} {v : Value} {xs : List Value} (h : w.ownsRow base e s v n xs) (hb : Below w.heap.size w w') : w'.ownsRow base e s v n xs := World.ownsRow.kept h (grown_of_below hb none) (by cases v.ownBlock <;> simp)
theorem below_ownR {a w w' : World} {e : TypeId} {s n : Nat} {v : Value} {xs : List Value} (h : Below a.heap.size a w) (ho : w.ownsRow a.heap.size e s v n xs) (hg : w.grownBy w' v.ownBlock) : Below a.heap.size a w' := h.grown hg h.size (fun k hk => (World.ownsRow.lt ho k hk).1)
def RHPost (b : List UInt8) (M : Nat) (w : World) (e : Ending) (w' : World) : Prop := ∃ v n, e = .returned (.tuple #[v, .bool (decide (b.length % M = 0))]) ∧ w'.ownsRow w.heap.size 44 32 v n (bvs (if b.length % M = 0 then b else [])) ∧ Below w.heap.size w w'
set_option maxRecDepth 100000 in
set_option maxHeartbeats 2000000 in
theorem rHash1_any (A : Option Addr) (c : Nat) (b : List UInt8) (w : World) (hr : Reads w w.heap.size 1 A b.length (bvs b)) (hc : b.length ≤ c) (hm : b.length ≤ 1099511627776) : Calls Try.prog 65 #[.slice A b.length c, .int .i64 1] w (RHPost b 32 w) := by
  obtain ⟨zs, hzs⟩ : ∃ zs : Array Value, zs = (bvs (List.replicate 32 0)).toArray := ⟨_, rfl⟩
  have hz32 := zeroRow32
  rw [← hzs] at hz32
  have ZS : Hid (zs.size = 32) := by show _ = _; rw [hzs]; simp [bvs_length]
  have HR := Lib.hid hr
  have HC := Lib.hid hc
  have HM := Lib.hid hm
  have hmI : (b.length : Int) ≤ 1099511627776 := by omega
  have hcI : (b.length : Int) ≤ (c : Int) := by omega
  clear hzs hr hc hm
  by_cases hmod : b.length % 32 = 0
  · have hM : ((b.length : Int) % 32 != 0) = false := by simp; omega
    have HMod := Lib.hid hmod
    clear hmod
    go_enter Try.func65, Try.ntmps65
    go_wp2
    go_loopw [6, 7] (fun v i wr => ∃ k p : Nat, p = k * 32 ∧ p ≤ b.length ∧ i = .int .i64 (p : Int) ∧ Hid (wr.ownsRow w.heap.size 44 32 v k (bvs (b.take p)) ∧ Below w.heap.size w wr)) (fun _ i _ => b.length - (intOf i).toNat)
    case atStart => exact ⟨0, 0, rfl, Nat.zero_le _, rfl, World.ownsRow_nil w _ _ 32, Below.refl _ _⟩
    case round =>
      obtain ⟨k, p, hkp, hp, rfl, hO⟩ := hrel
      have HKP := Lib.hid hkp
      by_cases hlt : p < b.length
      · have hlt' : (p : Int) < (b.length : Int) := by omega
        have hp0 : (0 : Int) ≤ (p : Int) := by omega
        have h32 : p + 32 ≤ b.length := by have h_ := HMod.out; omega
        have h32I : (p : Int) + 32 ≤ (b.length : Int) := by omega
        have hcne : ¬ c = p := by have h_ := HC.out; omega
        obtain ⟨b0, o0, hA, hb0, hall⟩ := flat_open (size := 1) (n := b.length) HR.out (by omega) (by decide)
        subst hA
        obtain ⟨pc, hpc⟩ : ∃ pc : Array Value, pc = (bvs (seg b p)).toArray := ⟨_, rfl⟩
        have HP := Lib.hid hpc
        have PZ : Hid (pc.size = 32) := by show _ = _; rw [hpc]; simp [bvs_length, seg_length h32]
        have RD := Lib.hid (seg_reads h32 (Nat.lt_of_lt_of_le hb0 hO.out.2.size) (hall wr hO.out.2))
        have SL := Lib.hid (seg_length h32)
        have H32 := Lib.hid h32
        clear hpc hall hb0 hkp h32
        go_wp2_with (first
          | (go_at_call 55; go_must (refine (rHash_any _ 32 _ (seg b p) SL.out wr RD.out).mono ?_; rintro e w2 ⟨y, hyl, hyx, rfl, hb⟩; obtain rfl := hyx SL.out; rw [← HP.out]; have O2 := Lib.hid (ownR_below hO.out.1 hb); have B2 := Lib.hid (hO.out.2.trans (hb.mono hO.out.2.size)); have RN := Lib.hid (row_new w2 zs pc 44); have AN := Lib.hid (heap_alloc_new w2 (.cells zs 44)); have P3 := Lib.hid RN.out.2.1; have O3 := Lib.hid (ownR_below O2.out RN.out.1); have B3 := Lib.hid (B2.out.trans (RN.out.1.mono B2.out.size)); clear hyl hyx hb))
          | (refine wpList_store_row rfl _ _ _ rfl w2.heap.size pc rfl rfl 44 zs (by with_reducible exact AN.out) (by rw [PZ.out]; kernel_rfl) (by rw [PZ.out, ZS.out]) (by rw [HP.out]; exact all_oneCell_toArray (bvs_one _)) ?_)
          | (refine wpList_load_arr rfl _ _ rfl w2.heap.size 0 rfl pc _ (by with_reducible exact range_row P3.out) Try.underlying44 rfl (by rw [PZ.out]; kernel_rfl) ?_)
          | (obtain ⟨i0, hi0, hz0, hz1, hz2⟩ := info_parts hinfo; refine slice1 (cs := pc) (s := 32) rfl rfl rfl PZ.out Try.underlying30 hi0 hz0 hz1 (by decide) ?_)
          | (at_builtin; go_must (obtain ⟨i0, hi0, hz0, hz1, hz2⟩ := info_parts hinfo; refine app1 (cs := pc) (n := k) (xs := bvs (b.take p)) (base := w.heap.size) rfl rfl rfl rfl Try.underlying30 hi0 hz0 hz1 hz2 (by simp [Value.cells, bvs_length]) (by decide) (ownR_below O3.out ((Below.refl _ _).alloc (Nat.le_refl _) _)) (heap_alloc_new _ _) PZ.out (by rw [HP.out]; exact all_oneCell_toArray (bvs_one _)) (by have h_ := HKP.out; have h2_ := HM.out; omega) (by have h_ := HKP.out; have h2_ := HM.out; omega) (B3.out.alloc B3.out.size _).size ?_; intro v5 w5 hown hg5 hx; have hb5 := below_ownR (B3.out.alloc B3.out.size _) (ownR_below O3.out ((Below.refl _ _).alloc (Nat.le_refl _) _)) hg5; have G : Hid (w5.ownsRow w.heap.size 44 32 v5 (k + 1) (bvs (b.take (p + 32))) ∧ Below w.heap.size w w5) := ⟨by rw [← seg_next, bvs_append, show bvs (seg b p) = pc.toList from by rw [HP.out]]; exact hown, hb5⟩; clear hown hg5 hx hb5)))
        go_roundw
        case rel => exact ⟨k + 1, p + 32, by have h_ := HKP.out; omega, H32.out, by go_num, G.out⟩
        case measure => simp [intOf]; omega
      · obtain rfl : p = b.length := by omega
        go_wp2
        go_ret2
        have h1 := hO.out.1
        rw [List.take_length] at h1
        exact ⟨_, k, by rw [decide_eq_true HMod.out]; rfl, by rw [if_pos HMod.out]; exact h1, hO.out.2⟩
  · have hM : ((b.length : Int) % 32 != 0) = true := by simp; omega
    have HMod := Lib.hid hmod
    clear hmod
    go_enter Try.func65, Try.ntmps65
    go_wp2
    go_ret2
    exact ⟨.slice none 0 0, 0, by rw [decide_eq_false HMod.out]; rfl, by rw [if_neg HMod.out]; exact World.ownsRow_nil w _ _ 32, Below.refl _ _⟩
set_option maxRecDepth 100000 in
set_option maxHeartbeats 2000000 in
theorem rHash2_any (A : Option Addr) (c : Nat) (b : List UInt8) (w : World) (hr : Reads w w.heap.size 1 A b.length (bvs b)) (hc : b.length ≤ c) (hm : b.length ≤ 1099511627776) : Calls Try.prog 65 #[.slice A b.length c, .int .i64 2] w (RHPost b 64 w) := by
  obtain ⟨zs, hzs⟩ : ∃ zs : Array Value, zs = (bvs (List.replicate 32 0)).toArray := ⟨_, rfl⟩
  have hz32 := zeroRow32
  rw [← hzs] at hz32
  have ZS : Hid (zs.size = 32) := by show _ = _; rw [hzs]; simp [bvs_length]
  have HR := Lib.hid hr
  have HC := Lib.hid hc
  have HM := Lib.hid hm
  have hmI : (b.length : Int) ≤ 1099511627776 := by omega
  have hcI : (b.length : Int) ≤ (c : Int) := by omega
  clear hzs hr hc hm
  by_cases hmod : b.length % 64 = 0
  · have hM : ((b.length : Int) % 64 != 0) = false := by simp; omega
    have HMod := Lib.hid hmod
    clear hmod
    go_enter Try.func65, Try.ntmps65
    go_wp2
    go_loopw [6, 7] (fun v i wr => ∃ k p : Nat, p = k * 32 ∧ p ≤ b.length ∧ i = .int .i64 (p : Int) ∧ Hid (wr.ownsRow w.heap.size 44 32 v k (bvs (b.take p)) ∧ Below w.heap.size w wr)) (fun _ i _ => b.length - (intOf i).toNat)
    case atStart => exact ⟨0, 0, rfl, Nat.zero_le _, rfl, World.ownsRow_nil w _ _ 32, Below.refl _ _⟩
    case round =>
      obtain ⟨k, p, hkp, hp, rfl, hO⟩ := hrel
      have HKP := Lib.hid hkp
      by_cases hlt : p < b.length
      · have hlt' : (p : Int) < (b.length : Int) := by omega
        have hp0 : (0 : Int) ≤ (p : Int) := by omega
        have h32 : p + 32 ≤ b.length := by have h_ := HMod.out; omega
        have h32I : (p : Int) + 32 ≤ (b.length : Int) := by omega
        have hcne : ¬ c = p := by have h_ := HC.out; omega
        obtain ⟨b0, o0, hA, hb0, hall⟩ := flat_open (size := 1) (n := b.length) HR.out (by omega) (by decide)
        subst hA
        obtain ⟨pc, hpc⟩ : ∃ pc : Array Value, pc = (bvs (seg b p)).toArray := ⟨_, rfl⟩
        have HP := Lib.hid hpc
        have PZ : Hid (pc.size = 32) := by show _ = _; rw [hpc]; simp [bvs_length, seg_length h32]
        have RD := Lib.hid (seg_reads h32 (Nat.lt_of_lt_of_le hb0 hO.out.2.size) (hall wr hO.out.2))
        have SL := Lib.hid (seg_length h32)
        have H32 := Lib.hid h32
        clear hpc hall hb0 hkp h32
        go_wp2_with (first
          | (go_at_call 55; go_must (refine (rHash_any _ 32 _ (seg b p) SL.out wr RD.out).mono ?_; rintro e w2 ⟨y, hyl, hyx, rfl, hb⟩; obtain rfl := hyx SL.out; rw [← HP.out]; have O2 := Lib.hid (ownR_below hO.out.1 hb); have B2 := Lib.hid (hO.out.2.trans (hb.mono hO.out.2.size)); have RN := Lib.hid (row_new w2 zs pc 44); have AN := Lib.hid (heap_alloc_new w2 (.cells zs 44)); have P3 := Lib.hid RN.out.2.1; have O3 := Lib.hid (ownR_below O2.out RN.out.1); have B3 := Lib.hid (B2.out.trans (RN.out.1.mono B2.out.size)); clear hyl hyx hb))
          | (refine wpList_store_row rfl _ _ _ rfl w2.heap.size pc rfl rfl 44 zs (by with_reducible exact AN.out) (by rw [PZ.out]; kernel_rfl) (by rw [PZ.out, ZS.out]) (by rw [HP.out]; exact all_oneCell_toArray (bvs_one _)) ?_)
          | (refine wpList_load_arr rfl _ _ rfl w2.heap.size 0 rfl pc _ (by with_reducible exact range_row P3.out) Try.underlying44 rfl (by rw [PZ.out]; kernel_rfl) ?_)
          | (obtain ⟨i0, hi0, hz0, hz1, hz2⟩ := info_parts hinfo; refine slice1 (cs := pc) (s := 32) rfl rfl rfl PZ.out Try.underlying30 hi0 hz0 hz1 (by decide) ?_)
          | (at_builtin; go_must (obtain ⟨i0, hi0, hz0, hz1, hz2⟩ := info_parts hinfo; refine app1 (cs := pc) (n := k) (xs := bvs (b.take p)) (base := w.heap.size) rfl rfl rfl rfl Try.underlying30 hi0 hz0 hz1 hz2 (by simp [Value.cells, bvs_length]) (by decide) (ownR_below O3.out ((Below.refl _ _).alloc (Nat.le_refl _) _)) (heap_alloc_new _ _) PZ.out (by rw [HP.out]; exact all_oneCell_toArray (bvs_one _)) (by have h_ := HKP.out; have h2_ := HM.out; omega) (by have h_ := HKP.out; have h2_ := HM.out; omega) (B3.out.alloc B3.out.size _).size ?_; intro v5 w5 hown hg5 hx; have hb5 := below_ownR (B3.out.alloc B3.out.size _) (ownR_below O3.out ((Below.refl _ _).alloc (Nat.le_refl _) _)) hg5; have G : Hid (w5.ownsRow w.heap.size 44 32 v5 (k + 1) (bvs (b.take (p + 32))) ∧ Below w.heap.size w w5) := ⟨by rw [← seg_next, bvs_append, show bvs (seg b p) = pc.toList from by rw [HP.out]]; exact hown, hb5⟩; clear hown hg5 hx hb5)))
        go_roundw
        case rel => exact ⟨k + 1, p + 32, by have h_ := HKP.out; omega, H32.out, by go_num, G.out⟩
        case measure => simp [intOf]; omega
      · obtain rfl : p = b.length := by omega
        go_wp2
        go_ret2
        have h1 := hO.out.1
        rw [List.take_length] at h1
        exact ⟨_, k, by rw [decide_eq_true HMod.out]; rfl, by rw [if_pos HMod.out]; exact h1, hO.out.2⟩
  · have hM : ((b.length : Int) % 64 != 0) = true := by simp; omega
    have HMod := Lib.hid hmod
    clear hmod
    go_enter Try.func65, Try.ntmps65
    go_wp2
    go_ret2
    exact ⟨.slice none 0 0, 0, by rw [decide_eq_false HMod.out]; rfl, by rw [if_neg HMod.out]; exact World.ownsRow_nil w _ _ 32, Below.refl _ _⟩
set_option maxRecDepth 100000 in
set_option maxHeartbeats 2000000 in
theorem rHash3_any (A : Option Addr) (c : Nat) (b : List UInt8) (w : World) (hr : Reads w w.heap.size 1 A b.length (bvs b)) (hc : b.length ≤ c) (hm : b.length ≤ 1099511627776) : Calls Try.prog 65 #[.slice A b.length c, .int .i64 3] w (RHPost b 96 w) := by
  obtain ⟨zs, hzs⟩ : ∃ zs : Array Value, zs = (bvs (List.replicate 32 0)).toArray := ⟨_, rfl⟩
  have hz32 := zeroRow32
  rw [← hzs] at hz32
  have ZS : Hid (zs.size = 32) := by show _ = _; rw [hzs]; simp [bvs_length]
  have HR := Lib.hid hr
  have HC := Lib.hid hc
  have HM := Lib.hid hm
  have hmI : (b.length : Int) ≤ 1099511627776 := by omega
  have hcI : (b.length : Int) ≤ (c : Int) := by omega
  clear hzs hr hc hm
  by_cases hmod : b.length % 96 = 0
  · have hM : ((b.length : Int) % 96 != 0) = false := by simp; omega
    have HMod := Lib.hid hmod
    clear hmod
    go_enter Try.func65, Try.ntmps65
    go_wp2
    go_loopw [6, 7] (fun v i wr => ∃ k p : Nat, p = k * 32 ∧ p ≤ b.length ∧ i = .int .i64 (p : Int) ∧ Hid (wr.ownsRow w.heap.size 44 32 v k (bvs (b.take p)) ∧ Below w.heap.size w wr)) (fun _ i _ => b.length - (intOf i).toNat)
    case atStart => exact ⟨0, 0, rfl, Nat.zero_le _, rfl, World.ownsRow_nil w _ _ 32, Below.refl _ _⟩
    case round =>
      obtain ⟨k, p, hkp, hp, rfl, hO⟩ := hrel
      have HKP := Lib.hid hkp
      by_cases hlt : p < b.length
      · have hlt' : (p : Int) < (b.length : Int) := by omega
        have hp0 : (0 : Int) ≤ (p : Int) := by omega
        have h32 : p + 32 ≤ b.length := by have h_ := HMod.out; omega
        have h32I : (p : Int) + 32 ≤ (b.length : Int) := by omega
        have hcne : ¬ c = p := by have h_ := HC.out; omega
        obtain ⟨b0, o0, hA, hb0, hall⟩ := flat_open (size := 1) (n := b.length) HR.out (by omega) (by decide)
        subst hA
        obtain ⟨pc, hpc⟩ : ∃ pc : Array Value, pc = (bvs (seg b p)).toArray := ⟨_, rfl⟩
        have HP := Lib.hid hpc
        have PZ : Hid (pc.size = 32) := by show _ = _; rw [hpc]; simp [bvs_length, seg_length h32]
        have RD := Lib.hid (seg_reads h32 (Nat.lt_of_lt_of_le hb0 hO.out.2.size) (hall wr hO.out.2))
        have SL := Lib.hid (seg_length h32)
        have H32 := Lib.hid h32
        clear hpc hall hb0 hkp h32
        go_wp2_with (first
          | (go_at_call 55; go_must (refine (rHash_any _ 32 _ (seg b p) SL.out wr RD.out).mono ?_; rintro e w2 ⟨y, hyl, hyx, rfl, hb⟩; obtain rfl := hyx SL.out; rw [← HP.out]; have O2 := Lib.hid (ownR_below hO.out.1 hb); have B2 := Lib.hid (hO.out.2.trans (hb.mono hO.out.2.size)); have RN := Lib.hid (row_new w2 zs pc 44); have AN := Lib.hid (heap_alloc_new w2 (.cells zs 44)); have P3 := Lib.hid RN.out.2.1; have O3 := Lib.hid (ownR_below O2.out RN.out.1); have B3 := Lib.hid (B2.out.trans (RN.out.1.mono B2.out.size)); clear hyl hyx hb))
          | (refine wpList_store_row rfl _ _ _ rfl w2.heap.size pc rfl rfl 44 zs (by with_reducible exact AN.out) (by rw [PZ.out]; kernel_rfl) (by rw [PZ.out, ZS.out]) (by rw [HP.out]; exact all_oneCell_toArray (bvs_one _)) ?_)
          | (refine wpList_load_arr rfl _ _ rfl w2.heap.size 0 rfl pc _ (by with_reducible exact range_row P3.out) Try.underlying44 rfl (by rw [PZ.out]; kernel_rfl) ?_)
          | (obtain ⟨i0, hi0, hz0, hz1, hz2⟩ := info_parts hinfo; refine slice1 (cs := pc) (s := 32) rfl rfl rfl PZ.out Try.underlying30 hi0 hz0 hz1 (by decide) ?_)
          | (at_builtin; go_must (obtain ⟨i0, hi0, hz0, hz1, hz2⟩ := info_parts hinfo; refine app1 (cs := pc) (n := k) (xs := bvs (b.take p)) (base := w.heap.size) rfl rfl rfl rfl Try.underlying30 hi0 hz0 hz1 hz2 (by simp [Value.cells, bvs_length]) (by decide) (ownR_below O3.out ((Below.refl _ _).alloc (Nat.le_refl _) _)) (heap_alloc_new _ _) PZ.out (by rw [HP.out]; exact all_oneCell_toArray (bvs_one _)) (by have h_ := HKP.out; have h2_ := HM.out; omega) (by have h_ := HKP.out; have h2_ := HM.out; omega) (B3.out.alloc B3.out.size _).size ?_; intro v5 w5 hown hg5 hx; have hb5 := below_ownR (B3.out.alloc B3.out.size _) (ownR_below O3.out ((Below.refl _ _).alloc (Nat.le_refl _) _)) hg5; have G : Hid (w5.ownsRow w.heap.size 44 32 v5 (k + 1) (bvs (b.take (p + 32))) ∧ Below w.heap.size w w5) := ⟨by rw [← seg_next, bvs_append, show bvs (seg b p) = pc.toList from by rw [HP.out]]; exact hown, hb5⟩; clear hown hg5 hx hb5)))
        go_roundw
        case rel => exact ⟨k + 1, p + 32, by have h_ := HKP.out; omega, H32.out, by go_num, G.out⟩
        case measure => simp [intOf]; omega
      · obtain rfl : p = b.length := by omega
        go_wp2
        go_ret2
        have h1 := hO.out.1
        rw [List.take_length] at h1
        exact ⟨_, k, by rw [decide_eq_true HMod.out]; rfl, by rw [if_pos HMod.out]; exact h1, hO.out.2⟩
  · have hM : ((b.length : Int) % 96 != 0) = true := by simp; omega
    have HMod := Lib.hid hmod
    clear hmod
    go_enter Try.func65, Try.ntmps65
    go_wp2
    go_ret2
    exact ⟨.slice none 0 0, 0, by rw [decide_eq_false HMod.out]; rfl, by rw [if_neg HMod.out]; exact World.ownsRow_nil w _ _ 32, Below.refl _ _⟩
end Go.Proofs.Ytbpgbihcihnieaa

namespace Go.Proofs.Ytbpgbihcihnieaa
open Go.RowKit
def linkPl : List (Nat × Nat) := [(0, 32), (32, 32), (64, 32)]
def leafPl : List (Nat × Nat) := [(0, 32), (32, 32)]
set_option maxRecDepth 100000 in
theorem built_link0 (ps : List (Nat × Value)) : (Try.prog).built 121 ps = Instr.fill (linkPl.toArray[·]?) (bvs (List.replicate 96 0)).toArray ps := by kernel_rfl
set_option maxRecDepth 100000 in
theorem built_leaf0 (ps : List (Nat × Value)) : (Try.prog).built 108 ps = Instr.fill (leafPl.toArray[·]?) (bvs (List.replicate 64 0)).toArray ps := by kernel_rfl
theorem built_link {x y z : List UInt8} (hx : x.length = 32) (hy : y.length = 32) (hz : z.length = 32) : (Try.prog).built 121 [(0, .agg (bvs x).toArray), (1, .agg (bvs y).toArray), (2, .agg (bvs z).toArray)] = some (bvs (x ++ (y ++ z))).toArray := by
  rw [built_link0]
  let z32 : List Value := bvs (List.replicate 32 0)
  have lz : z32.length = 32 := by simp [z32, bvs_length]
  refine (fill_seg [] z32 (bvs x) (z32 ++ z32) rfl rfl (by rw [bvs_length, hx]; rfl) (by rw [lz, bvs_length, hx])).trans ?_
  refine (fill_seg ([] ++ bvs x) z32 (bvs y) z32 (by simp) rfl (by rw [List.nil_append, bvs_length, bvs_length, hx, hy]; rfl) (by rw [lz, bvs_length, hy])).trans ?_
  refine (fill_seg ([] ++ (bvs x ++ bvs y)) z32 (bvs z) [] (by simp) rfl (by rw [List.nil_append, List.length_append, bvs_length, bvs_length, bvs_length, hx, hy, hz]; rfl) (by rw [lz, bvs_length, hz])).trans ?_
  rw [Instr.fill]
  congr 1
  simp [bvs_append]
theorem built_leaf {x y : List UInt8} (hx : x.length = 32) (hy : y.length = 32) : (Try.prog).built 108 [(0, .agg (bvs x).toArray), (1, .agg (bvs y).toArray)] = some (bvs (x ++ y)).toArray := by
  rw [built_leaf0]
  let z32 : List Value := bvs (List.replicate 32 0)
  have lz : z32.length = 32 := by simp [z32, bvs_length]
  refine (fill_seg [] z32 (bvs x) z32 rfl rfl (by rw [bvs_length, hx]; rfl) (by rw [lz, bvs_length, hx])).trans ?_
  refine (fill_seg ([] ++ bvs x) z32 (bvs y) [] (by simp) rfl (by rw [List.nil_append, bvs_length, bvs_length, hx, hy]; rfl) (by rw [lz, bvs_length, hy])).trans ?_
  rw [Instr.fill]
  congr 1
  simp [bvs_append]
theorem linfo : (Try.prog.info? 121).map (fun i => (i.zero, i.size, i.bytes)) = some (some (.agg (bvs (List.replicate 96 0)).toArray), 96, 96) := by kernel_rfl
theorem leinfo : (Try.prog.info? 108).map (fun i => (i.zero, i.size, i.bytes)) = some (some (.agg (bvs (List.replicate 64 0)).toArray), 64, 64) := by kernel_rfl
/-- An own row, read. -/
theorem ownR_form {w : World} {base : Nat} {e : TypeId} {s n : Nat} {v : Value} {xs : List Value} (h : w.ownsRow base e s v n xs) : ∃ A c, v = .slice A n c ∧ n ≤ c ∧ Reads w w.heap.size s A n xs := by
  have hr := h
  obtain ⟨hl, h0 | ⟨g, cap, cur, rfl, hb, hh, hle, _⟩⟩ := h
  · obtain ⟨rfl, rfl⟩ := h0
    exact ⟨none, 0, rfl, Nat.le_refl _, hl, fun h0 => absurd h0 (by omega)⟩
  · exact ⟨_, cap, rfl, hle, Reads.of_own hr⟩
theorem flat_seg {w' : World} {b off k : Nat} {bs : List UInt8} (hk : k * 32 + 32 ≤ bs.length) (h : ∀ j u, (bvs bs)[j]? = some u → w'.cell? ⟨b, off + j, none⟩ = some u) : w'.rangeAt b (off + k * 32) (bvs (seg bs (k * 32))) := fun j v hv => by
  have hj : j < 32 := by
    rcases Nat.lt_or_ge j 32 with h' | h'
    · exact h'
    · rw [List.getElem?_eq_none (by rw [bvs_length, seg_length hk]; exact h')] at hv; cases hv
  rw [Nat.add_assoc]
  refine h _ _ ?_
  rw [← hv]
  unfold seg
  simp only [bvs, List.getElem?_map, List.getElem?_take, if_pos hj, List.getElem?_drop]
theorem three_segs (b : List UInt8) (k : Nat) : b.take ((k + 1) * 96) = b.take (k * 96) ++ (seg b (3 * k * 32) ++ (seg b ((3 * k + 1) * 32) ++ seg b ((3 * k + 2) * 32))) := by
  have h1 := seg_next' b (p := 3 * k * 32) (q := (3 * k + 1) * 32) (by omega)
  have h2 := seg_next' b (p := (3 * k + 1) * 32) (q := (3 * k + 2) * 32) (by omega)
  have h3 := seg_next' b (p := (3 * k + 2) * 32) (q := (k + 1) * 96) (by omega)
  rw [← h3, ← h2, ← h1, show k * 96 = 3 * k * 32 from by omega]
  simp only [List.append_assoc]
theorem ownR_base {w : World} {base base' : Nat} {e : TypeId} {s n : Nat} {v : Value} {xs : List Value} (h : w.ownsRow base e s v n xs) (hb : base' ≤ base) : w.ownsRow base' e s v n xs := by
  obtain ⟨hl, h | ⟨g, cap, cur, h1, h2, h3⟩⟩ := h
  · exact ⟨hl, .inl h⟩
  · exact ⟨hl, .inr ⟨g, cap, cur, h1, Nat.le_trans hb h2, h3⟩⟩
def RLPost (b : List UInt8) (w : World) (e : Ending) (w' : World) : Prop := ∃ v n, e = .returned (.tuple #[v, .bool (decide (b.length % 96 = 0))]) ∧ w'.ownsRow w.heap.size 121 96 v n (bvs (if b.length % 96 = 0 then b else [])) ∧ Below w.heap.size w w'
set_option maxRecDepth 100000 in
set_option maxHeartbeats 2000000 in
theorem rReadLinks_any (A : Option Addr) (c : Nat) (b : List UInt8) (w : World) (hr : Reads w w.heap.size 1 A b.length (bvs b)) (hc : b.length ≤ c) (hm : b.length ≤ 1099511627776) : Calls Try.prog 74 #[.slice A b.length c] w (RLPost b w) := by
  have HR := Lib.hid hr
  have HC := Lib.hid hc
  have HM := Lib.hid hm
  clear hr hc hm
  by_cases hmod : b.length % 96 = 0
  · have HMod := Lib.hid hmod
    obtain ⟨m, hm⟩ : ∃ m, b.length = 3 * m * 32 := ⟨b.length / 96, by omega⟩
    have HB := Lib.hid hm
    have hm3 : (3 * m : Int) ≤ 1099511627776 := by have h_ := HM.out; omega
    clear hmod hm
    go_enter Try.func74, Try.ntmps74
    go_wp2_with (go_at_call 65; go_must (refine (rHash3_any A c b w HR.out HC.out HM.out).mono ?_; rintro e w1 ⟨v, n, rfl, ho, hb⟩; rw [decide_eq_true HMod.out]; rw [if_pos HMod.out] at ho; have hn3 : n = 3 * m := (by have h_ := ho.1; rw [bvs_length, HB.out] at h_; omega); subst hn3; obtain ⟨A1, c1, rfl, hc1, hr1⟩ := ownR_form ho; have HR1 := Lib.hid hr1; have B1 := Lib.hid hb; clear ho hb hc1 hr1))
    go_loopw [6, 7] (fun v i wr => ∃ k : Nat, k ≤ m ∧ i = .int .i64 ((3 * k : Nat) : Int) ∧ Hid (wr.ownsRow w1.heap.size 121 96 v k (bvs (b.take (k * 96))) ∧ Below w1.heap.size w1 wr)) (fun _ i _ => 3 * m - (intOf i).toNat)
    case atStart => exact ⟨0, Nat.zero_le _, rfl, by rw [Nat.zero_mul]; exact World.ownsRow_nil w1 _ _ 96, Below.refl _ _⟩
    case round =>
      obtain ⟨k, hk, rfl, hO⟩ := hrel
      have BW := Lib.hid (B1.out.trans (hO.out.2.mono B1.out.size))
      by_cases hlt : k < m
      · have hlt' : ((3 * k : Nat) : Int) < ((3 * m : Nat) : Int) := by omega
        have hlt1 : ((3 * k : Nat) : Int) + 1 < ((3 * m : Nat) : Int) := by omega
        have hlt2 : ((3 * k : Nat) : Int) + 2 < ((3 * m : Nat) : Int) := by omega
        have hk0 : (0 : Int) ≤ ((3 * k : Nat) : Int) := by omega
        obtain ⟨b0, o0, hA, hb0, hall⟩ := flat_open HR1.out (by omega) (by decide)
        subst hA
        have hkb : 3 * k * 32 + 96 ≤ b.length := by have h_ := HB.out; omega
        have HKB := Lib.hid hkb
        have HALL := Lib.hid hall
        obtain ⟨q0, hq0⟩ : ∃ q : Array Value, q = (bvs (seg b (3 * k * 32))).toArray := ⟨_, rfl⟩
        obtain ⟨q1, hq1⟩ : ∃ q : Array Value, q = (bvs (seg b ((3 * k + 1) * 32))).toArray := ⟨_, rfl⟩
        obtain ⟨q2, hq2⟩ : ∃ q : Array Value, q = (bvs (seg b ((3 * k + 2) * 32))).toArray := ⟨_, rfl⟩
        have Q0 := Lib.hid hq0
        have Q1 := Lib.hid hq1
        have Q2 := Lib.hid hq2
        have Z0 : Hid (q0.size = 32) := by show _ = _; rw [hq0]; simp [bvs_length, seg_length (bs := b) (p := 3 * k * 32) (by omega)]
        have Z1 : Hid (q1.size = 32) := by show _ = _; rw [hq1]; simp [bvs_length, seg_length (bs := b) (p := (3 * k + 1) * 32) (by omega)]
        have Z2 : Hid (q2.size = 32) := by show _ = _; rw [hq2]; simp [bvs_length, seg_length (bs := b) (p := (3 * k + 2) * 32) (by omega)]
        obtain ⟨pc, hpc⟩ : ∃ pc : Array Value, pc = (bvs (seg b (3 * k * 32) ++ (seg b ((3 * k + 1) * 32) ++ seg b ((3 * k + 2) * 32)))).toArray := ⟨_, rfl⟩
        have HPB : Hid ((Try.prog).built 121 [(0, .agg q0), (1, .agg q1), (2, .agg q2)] = some pc) := by
          show _ = _
          rw [hq0, hq1, hq2, hpc]
          exact built_link (seg_length (by omega)) (seg_length (by omega)) (seg_length (by omega))
        have HP := Lib.hid hpc
        have PZ : Hid (pc.size = 96) := by show _ = _; rw [hpc]; simp [bvs_length, seg_length (bs := b) (p := 3 * k * 32) (by omega), seg_length (bs := b) (p := (3 * k + 1) * 32) (by omega), seg_length (bs := b) (p := (3 * k + 2) * 32) (by omega)]
        have HK := Lib.hid hlt
        clear hall hkb hq0 hq1 hq2 hpc
        go_wp2
        refine AnyC.startB (fun w' => Below w1.heap.size w1 w') (by kernel_rfl) rfl ?_
        intro w2 hb2 hs2
        clear hs2
        have O2 := Lib.hid (ownR_below hO.out.1 hb2)
        have B2 := Lib.hid (hO.out.2.trans (hb2.mono hO.out.2.size))
        clear hb2
        apply AnyC.take (i := 0) rfl (by kernel_rfl) rfl
        · intro w' hC K hK
          go_wp2
          exact hK
        · rfl
        apply AnyC.take (i := 1) rfl (by kernel_rfl) rfl
        · intro w' hC K hK
          go_wp2
          exact hK
        · rfl
        apply AnyC.take (i := 2) rfl (by kernel_rfl) rfl
        · intro w' hC K hK
          go_wp2
          exact hK
        · rfl
        apply AnyC.take (i := 3) rfl (by kernel_rfl) rfl
        · intro w' hC K hK
          go_wp2
          exact hK
        · rfl
        apply AnyC.take (i := 4) rfl (by kernel_rfl) rfl
        · intro w' hC K hK
          refine wpList_load_arr rfl _ _ rfl b0 (o0 + 3 * k * 32) rfl q0 _ (by rw [Q0.out]; exact flat_seg (by have h_ := HKB.out; omega) (HALL.out w' hC)) Try.underlying44 rfl (by rw [Z0.out]; kernel_rfl) ?_
          go_wp2
          exact hK
        · rfl
        apply AnyC.take (i := 5) rfl (by kernel_rfl) rfl
        · intro w' hC K hK
          go_wp2
          exact hK
        · rfl
        apply AnyC.take (i := 6) rfl (by kernel_rfl) rfl
        · intro w' hC K hK
          go_wp2
          exact hK
        · rfl
        apply AnyC.take (i := 7) rfl (by kernel_rfl) rfl
        · intro w' hC K hK
          go_wp2
          exact hK
        · rfl
        apply AnyC.take (i := 8) rfl (by kernel_rfl) rfl
        · intro w' hC K hK
          go_wp2
          exact hK
        · rfl
        apply AnyC.take (i := 9) rfl (by kernel_rfl) rfl
        · intro w' hC K hK
          refine wpList_load_arr rfl _ _ rfl b0 (o0 + (3 * k + 1) * 32) rfl q1 _ (by rw [Q1.out]; exact flat_seg (by have h_ := HKB.out; omega) (HALL.out w' hC)) Try.underlying44 rfl (by rw [Z1.out]; kernel_rfl) ?_
          go_wp2
          exact hK
        · rfl
        apply AnyC.take (i := 10) rfl (by kernel_rfl) rfl
        · intro w' hC K hK
          go_wp2
          exact hK
        · rfl
        apply AnyC.take (i := 11) rfl (by kernel_rfl) rfl
        · intro w' hC K hK
          go_wp2
          exact hK
        · rfl
        apply AnyC.take (i := 12) rfl (by kernel_rfl) rfl
        · intro w' hC K hK
          go_wp2
          exact hK
        · rfl
        apply AnyC.take (i := 13) rfl (by kernel_rfl) rfl
        · intro w' hC K hK
          go_wp2
          exact hK
        · rfl
        apply AnyC.take (i := 14) rfl (by kernel_rfl) rfl
        · intro w' hC K hK
          refine wpList_load_arr rfl _ _ rfl b0 (o0 + (3 * k + 2) * 32) rfl q2 _ (by rw [Q2.out]; exact flat_seg (by have h_ := HKB.out; omega) (HALL.out w' hC)) Try.underlying44 rfl (by rw [Z2.out]; kernel_rfl) ?_
          go_wp2
          exact hK
        · rfl
        apply AnyC.take (i := 15) rfl (by kernel_rfl) rfl
        · intro w' hC K hK
          refine wpList_build_to rfl _ _ rfl [(0, .agg q0), (1, .agg q1), (2, .agg q2)] rfl pc (by with_reducible exact HPB.out) ?_
          go_wp2
          exact hK
        · rfl
        apply AnyC.solo (i := 16) rfl (by kernel_rfl) B2.out
        obtain ⟨i0, hi0, hz0, hz1, hz2⟩ := info_parts linfo
        refine slice1 (cs := pc) (s := 96) rfl rfl rfl PZ.out Try.underlying64 hi0 hz0 hz1 (by decide) ?_
        go_wp2
        refine ⟨rfl, ?_⟩
        have B3 : Hid (Below w1.heap.size w1 (w2.alloc (.cells pc 121))) := B2.out.alloc B2.out.size _
        have O3 : Hid ((w2.alloc (.cells pc 121)).ownsRow w1.heap.size 121 96 u6 k (bvs (b.take (k * 96)))) := ownR_below O2.out ((Below.refl _ _).alloc (Nat.le_refl _) _)
        apply AnyC.solo (i := 17) rfl (by kernel_rfl) B3.out
        refine app1 (cs := pc) (n := k) (xs := bvs (b.take (k * 96))) (base := w1.heap.size) rfl rfl rfl rfl Try.underlying64 hi0 hz0 hz1 hz2 (by simp [Value.cells, bvs_length]) (by decide) O3.out (heap_alloc_new _ _) PZ.out (by rw [HP.out]; exact all_oneCell_toArray (bvs_one _)) (by have h_ := HKB.out; have h2_ := HM.out; omega) (by have h_ := HKB.out; have h2_ := HM.out; omega) B3.out.size ?_
        intro v5 w5 hown hg5 hx
        have hb5 := below_ownR B3.out O3.out hg5
        have G : Hid (w5.ownsRow w1.heap.size 121 96 v5 (k + 1) (bvs (b.take ((k + 1) * 96))) ∧ Below w1.heap.size w1 w5) := ⟨by
          rw [three_segs b k, bvs_append, show bvs (seg b (3 * k * 32) ++ (seg b ((3 * k + 1) * 32) ++ seg b ((3 * k + 2) * 32))) = pc.toList from by rw [HP.out]]
          exact hown, hb5⟩
        clear hown hg5 hx hb5
        go_wp2
        refine ⟨rfl, ?_⟩
        apply AnyC.take (i := 18) rfl (by kernel_rfl) rfl
        · intro w' hC K hK
          go_wp2
          exact hK
        · rfl
        refine AnyC.done G.out.2 (by kernel_rfl) ?_
        go_wp2
        go_roundw
        case rel => exact ⟨k + 1, HK.out, by go_num, G.out⟩
        case measure => simp [intOf]; omega
      · obtain rfl : k = m := by omega
        go_wp2
        go_ret2
        have h1 := hO.out.1
        rw [show k * 96 = 3 * k * 32 from by omega, ← HB.out, List.take_length] at h1
        exact ⟨_, k, by rw [decide_eq_true HMod.out]; rfl, by rw [if_pos HMod.out]; exact ownR_base h1 B1.out.size, BW.out⟩
  · have HMod := Lib.hid hmod
    clear hmod
    go_enter Try.func74, Try.ntmps74
    go_wp2_with (go_at_call 65; go_must (refine (rHash3_any A c b w HR.out HC.out HM.out).mono ?_; rintro e w1 ⟨v, n, rfl, ho, hb⟩; rw [decide_eq_false HMod.out]; rw [if_neg HMod.out] at ho; have hn0 : n = 0 := (by have h_ := ho.1; simp [bvs] at h_; omega); subst hn0; obtain ⟨A1, c1, rfl, hc1, hr1⟩ := ownR_form ho; have B1 := Lib.hid hb; clear ho hb hc1 hr1))
    go_loopw [6, 7] (fun v i wr => v = .slice none 0 0 ∧ i = .int .i64 0 ∧ wr = w1) (fun _ i _ => 0)
    case atStart => exact ⟨rfl, rfl, rfl⟩
    case round =>
      obtain ⟨rfl, rfl, rfl⟩ := hrel
      go_wp2
      go_ret2
      exact ⟨.slice none 0 0, 0, by rw [decide_eq_false HMod.out]; rfl, by rw [if_neg HMod.out]; exact World.ownsRow_nil _ _ _ 96, B1.out⟩
end Go.Proofs.Ytbpgbihcihnieaa
