/- The texts H4 H5 of this work, merged by wip/merge.py. No conditions. -/
import Derived.Test.YtjichadkonlfpaaDoorQH3z
namespace Go.Proofs.YtjichadkonlfpaaDoor
open Go.RowKit
def strsV (l : List (List UInt8)) : List Value := l.map fun x => .string ⟨x.toArray⟩
def valuesP (hs : List (List UInt8 × List UInt8)) (nm : List UInt8) : List (List UInt8) := (hs.filter fun p => decide (p.1 = nm)).map (·.2)
theorem valuesP_succ (hs : List (List UInt8 × List UInt8)) (nm : List UInt8) (k : Nat) (h : k < hs.length) : valuesP (hs.take (k + 1)) nm = valuesP (hs.take k) nm ++ (if hs[k].1 = nm then [hs[k].2] else []) := by
  rw [List.take_succ_eq_append_getElem h, valuesP, List.filter_append, List.map_append, ← valuesP]
  congr 1
  by_cases h1 : hs[k].1 = nm <;> simp [h1]
theorem valuesP_le (hs : List (List UInt8 × List UInt8)) (nm : List UInt8) : (valuesP hs nm).length ≤ hs.length := by
  simp only [valuesP, List.length_map]
  exact List.length_filter_le _ _
theorem strinfo : (Tryd.prog.info? 9).map (fun i => (i.zero, i.size, i.bytes)) = some (some (.string ⟨#[]⟩), 1, 16) := by kernel_rfl
theorem appS {ops : Array Oper} {rest : List Oper} {o : Oper} {a : Act} {w : World} {Q : Exit → Act → World → Prop} {sl x : Operand} {base n g : Nat} {v u : Value} {xs : List Value}
    (hgd : o.guard = none) (ho : o.op = .call { callee := .builtin .append, args := #[sl, x], argTypes := #[61, 61] }) (hs : a.eval sl = v) (hx : a.eval x = .slice (some ⟨g, 0, none⟩) 1 1)
    (hown : w.ownsRow base 9 1 v n xs) (hblk : w.heap[g]? = some (.cells #[u] 9 (0, 0))) (h1 : u.oneCell' = true) (hn : (n + 1) * 16 ≤ 140737488355328) (hbase : base ≤ w.heap.size)
    (h : ∀ v' w', w'.ownsRow base 9 1 v' (n + 1) (xs ++ [u]) → w.grownBy w' v.ownBlock → (v'.ownBlock = v.ownBlock ∨ v'.ownBlock = some w.heap.size) → wpList Tryd.prog ops Q rest (a.put o.dst v') w') : wpList Tryd.prog ops Q (o :: rest) a w := by
  obtain ⟨i0, hi0, hz0, hz1, hz2⟩ := info_parts strinfo
  exact app1 (cs := #[u]) hgd ho hs hx Tryd.underlying61 hi0 hz0 hz1 hz2 rfl (by decide) hown hblk rfl (by simp [h1]) hn (by omega) hbase h
/-- A header where it lies. -/
theorem hdr_at {w : World} {A : Option Addr} {n : Nat} {hs : List (List UInt8 × List UInt8)} (h : Reads w w.heap.size 2 A n (hsV hs)) (hn : hs.length = n) (h0 : 0 < n) :
    ∃ b off, A = some ⟨b, off, none⟩ ∧ b < w.heap.size ∧ ∀ w', Below w.heap.size w w' → ∀ (k : Nat) (hk : k < hs.length), w'.rangeAt b (off + k * 2) [.string ⟨hs[k].1.toArray⟩, .string ⟨hs[k].2.toArray⟩] := by
  obtain ⟨a, rfl, hb, hc⟩ := h.2 h0
  obtain ⟨b, off, sp⟩ := a
  have hat : ∀ (l : List (List UInt8 × List UInt8)) (k : Nat) (hk : k < l.length) (j : Nat), j < 2 → (hsV l)[k * 2 + j]? = [Value.string ⟨l[k].1.toArray⟩, .string ⟨l[k].2.toArray⟩][j]? := by
    intro l
    induction l with
    | nil => intro k hk; simp at hk
    | cons p l ih =>
      intro k hk j hj
      have e : hsV (p :: l) = [Value.string ⟨p.1.toArray⟩, .string ⟨p.2.toArray⟩] ++ hsV l := rfl
      cases k with
      | zero => rw [e, List.getElem?_append_left (by simp; omega), Nat.zero_mul, Nat.zero_add]; rfl
      | succ k =>
        rw [e, List.getElem?_append_right (by simp; omega)]
        have := ih k (by simpa using hk) j hj
        simpa [Nat.succ_mul, show k * 2 + 2 + j - 2 = k * 2 + j from by omega] using this
  have hsp : sp = none := by
    have h1 := hc 0 _ (show (hsV hs)[0]? = some _ from by rw [show 0 = 0 * 2 + 0 from rfl, hat hs 0 (by omega) 0 (by omega)]; rfl)
    simpa [Addr.add] using World.cell?_spot h1
  subst hsp
  refine ⟨b, off, rfl, hb, fun w' hw' k hk j u hu => ?_⟩
  have hj : j < 2 := by
    have := (List.getElem?_eq_some_iff.1 hu).1
    simpa using this
  have h1 := hc (k * 2 + j) u (by rw [hat hs k hk j hj]; exact hu)
  rw [add_none, ← Nat.add_assoc] at h1
  exact (hw'.cell (p := ⟨b, off + k * 2 + j, none⟩) hb).trans h1
theorem str_ne {a b : List UInt8} (h : ¬ a = b) : ((⟨a.toArray⟩ : ByteArray).toList == (⟨b.toArray⟩ : ByteArray).toList) = false := by
  rw [ByteArray.toList_eq, ByteArray.toList_eq]
  simpa using h
def VPost (l : List (List UInt8)) (w : World) (e : Ending) (w' : World) : Prop := ∃ v, e = .returned v ∧ w'.ownsRow w.heap.size 9 1 v l.length (strsV l) ∧ Below w.heap.size w w'
theorem zeroHdr : ∀ w, (zeroValue 55).run Tryd.prog w = .ok (.agg #[.string ⟨#[]⟩, .string ⟨#[]⟩]) w := fun w => by kernel_rfl
theorem row_new (w : World) (zs s : Array Value) (t : TypeId) : Below w.heap.size w ((w.alloc (.cells zs t)).setRow w.heap.size s) ∧ ((w.alloc (.cells zs t)).setRow w.heap.size s).heap[w.heap.size]? = some (.cells s t (0, 0)) ∧ ((w.alloc (.cells zs t)).setRow w.heap.size s).heap.size = w.heap.size + 1 := by
  have h1 := Frm.setRow (w.alloc (.cells zs t)) w.heap.size s
  exact ⟨((Below.refl _ w).alloc (Nat.le_refl _) _).trans (h1.1.below (by simp) (by simp)), heap_setRow (heap_alloc_new w _), by rw [h1.2]; simp⟩
set_option maxRecDepth 100000 in
set_option maxHeartbeats 2000000 in
theorem values_any (w : World) (g : Nat) (s : PS) (W H B : Value) (nm : List UInt8) (P : Par w g s W H B) (hh : s.hs.length ≤ 1000000000) :
    Calls Tryd.prog 31 #[.pointer (some ⟨g, 0, none⟩), .string ⟨nm.toArray⟩] w (VPost (valuesP s.hs nm) w) := by
  have e6 := P.at_.2.2.2.2.2.2.1
  obtain ⟨n, hn⟩ : ∃ n, n = s.hs.length := ⟨_, rfl⟩
  have ho := P.hs
  rw [← hn] at ho
  obtain ⟨A, cH, hH, _, hr⟩ := ownR_form ho
  subst hH
  have HN := Lib.hid hn.symm
  have HR := Lib.hid hr
  have hnI : (n : Int) ≤ 1000000000 := by omega
  have zh := zeroHdr
  clear P ho hr hn hh
  go_enter Tryd.func31, Tryd.ntmps31
  go_wp2
  go_loopw [5, 14] (fun v i wr => ∃ k : Nat, k ≤ n ∧ i = .int .i64 (k : Int) ∧ Hid (wr.ownsRow w.heap.size 9 1 v (valuesP (s.hs.take k) nm).length (strsV (valuesP (s.hs.take k) nm)) ∧ Below w.heap.size w wr)) (fun _ i _ => n - (intOf i).toNat)
  case atStart => exact ⟨0, Nat.zero_le _, rfl, World.ownsRow_nil _ _ _ 1, Below.refl _ _⟩
  case round =>
    obtain ⟨k, hk, rfl, hO⟩ := hrel
    by_cases hlt : k < n
    · have hlt' : (k : Int) < (n : Int) := by omega
      have hk0 : (0 : Int) ≤ (k : Int) := by omega
      have hks : k < s.hs.length := by rw [HN.out]; exact hlt
      obtain ⟨b, off, hA, hb, hat⟩ := hdr_at HR.out HN.out (by omega)
      subst hA
      obtain ⟨p, hp⟩ : ∃ p, p = s.hs[k] := ⟨_, rfl⟩
      obtain ⟨pc, hpc⟩ : ∃ pc : Array Value, pc = #[.string ⟨p.1.toArray⟩, .string ⟨p.2.toArray⟩] := ⟨_, rfl⟩
      have PZ : Hid (pc.size = 2) := by show _ = _; rw [hpc]; rfl
      have PO : Hid ((pc.all fun x => x.oneCell') = true) := by show _ = _; rw [hpc]; kernel_rfl
      have RG : Hid (wr.rangeAt b (off + k * 2) pc.toList) := by show World.rangeAt _ _ _ _; rw [hpc, hp]; exact hat wr hO.out.2 k hks
      have RN := row_new wr #[.string ⟨#[]⟩, .string ⟨#[]⟩] pc 55
      have AN := Lib.hid (heap_alloc_new wr (.cells #[.string ⟨#[]⟩, .string ⟨#[]⟩] 55))
      obtain ⟨w1, hw1⟩ : ∃ w1, w1 = (wr.alloc (.cells #[.string ⟨#[]⟩, .string ⟨#[]⟩] 55)).setRow wr.heap.size pc := ⟨_, rfl⟩
      rw [← hw1] at RN
      have HW1 := Lib.hid hw1.symm
      have d0 : w1.cell? ⟨wr.heap.size, 0, none⟩ = some (.string ⟨p.1.toArray⟩) := by rw [cell_of_row _ _ _ _ _ _ RN.2.1, hpc]; rfl
      have d1 : w1.cell? ⟨wr.heap.size, 1, none⟩ = some (.string ⟨p.2.toArray⟩) := by rw [cell_of_row _ _ _ _ _ _ RN.2.1, hpc]; rfl
      have O1 := Lib.hid (ownR_below hO.out.1 RN.1)
      have B1 := Lib.hid (hO.out.2.trans (RN.1.mono hO.out.2.size))
      have HB2 : Hid (∀ o, (w1.alloc o).heap[wr.heap.size + 1]? = some o) := fun o => by rw [← RN.2.2]; exact heap_alloc_new w1 o
      have VS := Lib.hid (valuesP_succ s.hs nm k hks)
      rw [← hp] at VS
      have VL : Hid ((valuesP (s.hs.take k) nm).length ≤ 1000000000) := by
        show _ ≤ _
        have h1 := valuesP_le (s.hs.take k) nm
        have h2 : (s.hs.take k).length ≤ k := by simp; omega
        exact Nat.le_trans (Nat.le_trans h1 h2) (by omega)
      have HK := Lib.hid hlt
      subst hw1
      clear hp hpc hat hb RN
      by_cases hnm : p.1 = nm
      · rw [hnm] at d0
        rw [if_pos hnm] at VS
        clear hnm
        go_wp2_with (first
          | (refine wpList_load_arr rfl _ _ rfl b (off + k * 2) rfl pc _ (by with_reducible exact RG.out) Tryd.underlying55 rfl (by rw [PZ.out]; kernel_rfl) ?_)
          | (refine wpList_store_row rfl _ _ _ rfl wr.heap.size pc rfl rfl 55 _ (by with_reducible exact AN.out) (by rw [PZ.out]; kernel_rfl) (by rw [PZ.out]; rfl) PO.out ?_)
          | (at_builtin; go_must (refine appS (n := (valuesP (s.hs.take k) nm).length) (xs := strsV (valuesP (s.hs.take k) nm)) (base := w.heap.size) (u := .string ⟨p.2.toArray⟩) rfl rfl rfl rfl (ownR_below O1.out ((Below.refl _ _).alloc (Nat.le_refl _) _)) (HB2.out _) rfl (by have h_ := VL.out; omega) (B1.out.alloc B1.out.size _).size ?_; intro v5 w5 ho hg hx; have hb5 := (B1.out.alloc B1.out.size (.cells #[.string ⟨p.2.toArray⟩] 9)).grown hg (B1.out.alloc B1.out.size _).size (fun k hk => (World.ownsRow.lt O1.out k hk).1); obtain ⟨A5, c5, hv5, _, _⟩ := ownR_form ho; subst hv5; have GG : Hid (w5.ownsRow w.heap.size 9 1 (.slice A5 ((valuesP (s.hs.take k) nm).length + 1) c5) (valuesP (s.hs.take (k + 1)) nm).length (strsV (valuesP (s.hs.take (k + 1)) nm)) ∧ Below w.heap.size w w5) := ⟨by rw [VS.out, List.length_append, show strsV (valuesP (s.hs.take k) nm ++ [p.2]) = strsV (valuesP (s.hs.take k) nm) ++ [.string ⟨p.2.toArray⟩] from by simp [strsV]]; exact ho, hb5⟩; clear ho hg hx hb5)))
        go_roundw
        case rel => exact ⟨k + 1, HK.out, by go_num, GG.out⟩
        case measure => simp [intOf]; omega
      · rw [if_neg hnm, List.append_nil] at VS
        have hne : (p.1 == nm) = false := by simpa using hnm
        clear hnm
        go_wp2_with (first
          | (refine wpList_load_arr rfl _ _ rfl b (off + k * 2) rfl pc _ (by with_reducible exact RG.out) Tryd.underlying55 rfl (by rw [PZ.out]; kernel_rfl) ?_)
          | (refine wpList_store_row rfl _ _ _ rfl wr.heap.size pc rfl rfl 55 _ (by with_reducible exact AN.out) (by rw [PZ.out]; kernel_rfl) (by rw [PZ.out]; rfl) PO.out ?_))
        go_roundw
        case rel => exact ⟨k + 1, HK.out, by go_num, by rw [VS.out]; exact O1.out, B1.out⟩
        case measure => simp [intOf]; omega
    · obtain rfl : k = n := by omega
      have h1 := hO.out.1
      rw [← HN.out, List.take_length] at h1
      obtain ⟨A2, c2, hv, _, _⟩ := ownR_form h1
      subst hv
      have H1 := Lib.hid h1
      clear h1
      go_wp2
      go_ret
      exact ⟨_, rfl, H1.out, hO.out.2⟩
end Go.Proofs.YtjichadkonlfpaaDoor

namespace Go.Proofs.YtjichadkonlfpaaDoor
open Go.RowKit
def clW : List UInt8 := [99, 111, 110, 116, 101, 110, 116, 45, 108, 101, 110, 103, 116, 104]
def teW : List UInt8 := [116, 114, 97, 110, 115, 102, 101, 114, 45, 101, 110, 99, 111, 100, 105, 110, 103]
def hostW : List UInt8 := [104, 111, 115, 116]
def connW : List UInt8 := [99, 111, 110, 110, 101, 99, 116, 105, 111, 110]
def keepW : List UInt8 := [107, 101, 101, 112, 45, 97, 108, 105, 118, 101]
def closeW : List UInt8 := [99, 108, 111, 115, 101]
def chunkW : List UInt8 := [99, 104, 117, 110, 107, 101, 100]
def digW : List UInt8 := [48, 49, 50, 51, 52, 53, 54, 55, 56, 57]
def numD (v : List UInt8) : Nat := (Lib.decFrom 0 v).getD 0
def lowIs (nm v : List UInt8) : Bool := Lib.toLowerA v == nm
/-- The state of 'close' when the first k connection headers have been looked at for keep-alive, and for close. -/
def keepC (c : Bool) (l : List (List UInt8)) : Bool := if l.any (lowIs keepW) then false else c
def closeC (c : Bool) (l : List (List UInt8)) : Bool := c || l.any (lowIs closeW)
def wholeC (s : PS) : Bool := closeC (keepC s.old (valuesP s.hs connW)) (valuesP s.hs connW)
def badSize (v : List UInt8) : Bool := decide (v.length < 1) || (decide (9 < v.length) || !(Lib.trimS v digW).isEmpty)
def wholeT (s : PS) : List (List UInt8) → List (List UInt8) → PS × Int
  | v :: _, _ => if lowIs chunkW v then ({ s with st := 10 }, 0) else (s, 400)
  | [], v :: _ => if badSize v then (s, 400) else if 4096 < numD v then ({ s with lf := (numD v : Int) }, 413) else ({ s with lf := (numD v : Int) }, 0)
  | [], [] => (s, 0)
def wholeNo (s : PS) : Bool := (!s.old && !decide ((valuesP s.hs hostW).length = 1)) || decide (1 < (valuesP s.hs clW).length + (valuesP s.hs teW).length)
def wholeP (s : PS) : PS × Int := if wholeNo s then (s, 400) else wholeT { s with cl := wholeC s } (valuesP s.hs teW) (valuesP s.hs clW)
theorem any_take (p : List UInt8 → Bool) (l : List (List UInt8)) (k : Nat) (h : k < l.length) : (l.take (k + 1)).any p = ((l.take k).any p || p l[k]) := by
  rw [List.take_succ_eq_append_getElem h, List.any_append]
  simp
theorem keepC_succ (c : Bool) (l : List (List UInt8)) (k : Nat) (h : k < l.length) : keepC c (l.take (k + 1)) = if lowIs keepW l[k] then false else keepC c (l.take k) := by
  unfold keepC
  rw [any_take _ _ _ h]
  cases lowIs keepW l[k] <;> simp
theorem closeC_succ (c : Bool) (l : List (List UInt8)) (k : Nat) (h : k < l.length) : closeC c (l.take (k + 1)) = (closeC c (l.take k) || lowIs closeW l[k]) := by
  unfold closeC
  rw [any_take _ _ _ h, Bool.or_assoc]
theorem dropWhile_all {p : UInt8 → Bool} {l : List UInt8} (h : l.dropWhile p = []) : ∀ b ∈ l, p b = true := by
  induction l with
  | nil => intro b hb; cases hb
  | cons a l ih =>
    rw [List.dropWhile_cons] at h
    split at h
    · rename_i ha
      intro b hb
      rcases List.mem_cons.1 hb with rfl | hb
      · exact ha
      · exact ih h b hb
    · cases h
theorem trim_all {v cs : List UInt8} (h : Lib.trimS v cs = []) : ∀ b ∈ v, cs.contains b = true := by
  have h1 := dropWhile_all (show (Lib.trimRightS v cs).dropWhile (cs.contains ·) = [] from h)
  have h2 : v.reverse.dropWhile (cs.contains ·) = [] := by
    cases hd : v.reverse.dropWhile (cs.contains ·) with
    | nil => rfl
    | cons a l =>
      have h3 := h1 a (by unfold Lib.trimRightS; rw [hd]; simp)
      have h5 := List.head_dropWhile_not (fun x => cs.contains x) (l := v.reverse) (by rw [hd]; simp)
      simp only [hd, List.head_cons] at h5
      rw [h3] at h5; cases h5
  exact fun b hb => dropWhile_all h2 b (by simpa using hb)
theorem dig_val {b : UInt8} (h : digW.contains b = true) : ∃ d, Lib.digitVal b = some d ∧ d < 10 := by
  simp only [digW, List.contains_eq_mem, List.mem_cons, List.not_mem_nil, or_false, decide_eq_true_eq] at h
  rcases h with rfl | rfl | rfl | rfl | rfl | rfl | rfl | rfl | rfl | rfl <;> exact ⟨_, rfl, by decide⟩
theorem dec_some : ∀ (v : List UInt8) (acc : Nat), (∀ b ∈ v, digW.contains b = true) → ∃ n, Lib.decFrom acc v = some n ∧ n < (acc + 1) * 10 ^ v.length
  | [], acc, _ => ⟨acc, rfl, by simp⟩
  | b :: v, acc, h => by
    obtain ⟨d, hd, hlt⟩ := dig_val (h b (by simp))
    obtain ⟨n, hn, hb⟩ := dec_some v (acc * 10 + d) (fun x hx => h x (by simp [hx]))
    refine ⟨n, by simp only [Lib.decFrom, hd]; exact hn, Nat.lt_of_lt_of_le hb ?_⟩
    rw [List.length_cons, Nat.pow_succ]
    have : (acc * 10 + d + 1) * 10 ^ v.length ≤ (acc + 1) * 10 * 10 ^ v.length := Nat.mul_le_mul_right _ (by omega)
    calc _ ≤ _ := this
      _ = _ := by rw [Nat.mul_assoc, Nat.mul_comm 10]
theorem size_ok {v : List UInt8} (h : badSize v = false) : Lib.atoi v = some (numD v : Int) ∧ numD v < 1000000000 ∧ v.length ≤ 9 ∧ 1 ≤ v.length ∧ Lib.trimS v digW = [] := by
  simp only [badSize, Bool.or_eq_false_iff, decide_eq_false_iff_not, Bool.not_eq_eq_eq_not, Bool.not_false, List.isEmpty_iff] at h
  obtain ⟨h1, h2, h3⟩ := h
  have ha := trim_all h3
  obtain ⟨n, hn, hlt⟩ := dec_some v 0 ha
  have hl : v.length ≤ 9 := by omega
  have hlt2 : n < 1000000000 := by
    have : 10 ^ v.length ≤ 10 ^ 9 := Nat.pow_le_pow_right (by decide) hl
    omega
  have hd : numD v = n := by unfold numD; rw [hn]; rfl
  rw [hd]
  refine ⟨?_, hlt2, hl, by omega, h3⟩
  cases v with
  | nil => simp at h1
  | cons b r =>
    have hb := ha b (by simp)
    have n45 : (b == 45) = false := by
      cases hq : b == 45 with
      | false => rfl
      | true => have : b = 45 := by simpa using hq
                subst this; simp [digW] at hb
    have n43 : (b == 43) = false := by
      cases hq : b == 43 with
      | false => rfl
      | true => have : b = 43 := by simpa using hq
                subst this; simp [digW] at hb
    simp only [Lib.atoi, n45, n43, Bool.false_eq_true, if_false, Lib.decNat, List.isEmpty_cons, hn, Option.map_some]
/-- A list of strings of the call's own. -/
def StrL (w : World) (base : Nat) (v : Value) (l : List (List UInt8)) : Prop := w.ownsRow base 9 1 v l.length (strsV l)
theorem StrL.frm {w w' : World} {base : Nat} {v : Value} {l : List (List UInt8)} {ps : List Nat} (h : StrL w base v l) (hf : Frm ps w w') (hp : ∀ q ∈ ps, q < base) : StrL w' base v l := ownR_frms h hf (fun q hq => .inl (hp q hq))
theorem StrL.form {w : World} {base : Nat} {v : Value} {l : List (List UInt8)} (h : StrL w base v l) : ∃ A c, v = .slice A l.length c := by
  obtain ⟨A, c, hv, _⟩ := ownR_form h
  exact ⟨A, c, hv⟩
theorem StrL.at_ {w : World} {base n c : Nat} {A : Option Addr} {l : List (List UInt8)} (h : StrL w base (.slice A n c) l) (hn : l.length = n) (k : Nat) (hk : k < l.length) : ∃ b, A = some ⟨b, 0, none⟩ ∧ w.cell? ⟨b, k, none⟩ = some (.string ⟨l[k].toArray⟩) := by
  subst hn
  have h0 := h
  obtain ⟨hl, h2 | ⟨b, cap, cur, hv, _⟩⟩ := h
  · omega
  · injection hv with hA _ hc
    subst hA hc
    refine ⟨b, rfl, ?_⟩
    rw [World.ownsRow.cellAt h0 k (by omega)]
    simp [strsV, hk]
theorem atoi_any (v : List UInt8) (hb : badSize v = false) (w : World) : Calls Tryd.prog 32 #[.string ⟨v.toArray⟩] w fun e w' => e = .returned (.tuple #[.int .i64 (numD v : Int), .nilIface]) ∧ Below w.heap.size w w' := by
  obtain ⟨h1, _, h3, _⟩ := size_ok hb
  refine (Tryd.strconv_Atoi ⟨v.toArray⟩ (numD v : Int) (by rw [show (ByteArray.mk v.toArray).size = v.length from by simp [ByteArray.size]]; omega) (by simpa using h1) w).mono ?_
  rintro e w' ⟨rfl, t, rfl⟩
  refine ⟨rfl, ⟨?_, ?_, ?_, by rw [Lib.bytesWorld_size]; omega, fun k hk => Lib.bytesWorld_at_old w _ _ k hk⟩⟩
  all_goals (unfold Lib.bytesWorld World.freeze; rw [if_neg (by decide)]; rfl)
end Go.Proofs.YtjichadkonlfpaaDoor
