/- wire: open. No conditions. -/
import Derived.Test.YtbpgbihcihnieaaV9
import Derived.Laws.OwnMore
namespace Go.Proofs.Ytbpgbihcihnieaa
open Go.RowKit
theorem rdI_own {w : World} {base n c : Nat} {A : Option Addr} {l : List UInt8} (h : Own8 w base (.slice A n c) l) : RdI base w.heap.size w A (bvs l) := fun h0 => by
  have hr := Own8.reads h
  have hn : (bvs l).length = n := by have := hr.1; omega
  obtain ⟨b, off, u, rfl, hb, _, _⟩ := hr.at_ (k := 0) (by omega)
  obtain ⟨ad, he, _, hc⟩ := hr.2 (by omega)
  cases he
  exact ⟨b, off, rfl, (own8_lt h b rfl).1, hb, fun j u hu => by have h_ := hc j u hu; rw [add_none] at h_; exact h_⟩
theorem itI_own {w : World} {base : Nat} {v : Value} {ls : List (List UInt8)} (h : OwnL w base v ls) : ∃ A c, v = .slice A ls.length c ∧ ls.length ≤ c ∧ ItI base w.heap.size w A ls := by
  obtain ⟨vs, h⟩ := h
  have hr := h.row
  obtain ⟨hl, h0 | ⟨g, cap, cur, rfl, hb, hh, hle, _⟩⟩ := h.row
  · obtain ⟨rfl, hn⟩ := h0
    have : ls = [] := List.eq_nil_of_length_eq_zero hn
    subst this
    exact ⟨none, 0, rfl, by simp, fun h0 => by simp at h0⟩
  · refine ⟨_, cap, rfl, hle, fun h0 => ?_⟩
    have hR := Reads.of_own hr
    obtain ⟨ad, he, hlt, hc⟩ := hR.2 h0
    cases he
    refine ⟨g, 0, rfl, hb, hlt, fun k hk => ?_⟩
    obtain ⟨u, hu, ho, _⟩ := h.each k hk
    obtain ⟨A, c, rfl, hcl, hrd⟩ := own8_form ho
    exact ⟨A, c, by have h_ := hc k _ hu; rw [add_none] at h_; exact h_, hcl, rdI_own ho⟩
/-- Where nothing was opened: so many fields that are nothing. -/
def noFields (n : Nat) : List (List UInt8) := List.replicate n []
theorem made_fields (n : Nat) (hn : n ≤ 100) : ∃ NS : Array Value, NS.size = n ∧ (∀ j, j < n → NS[j]? = some (.slice none 0 0)) ∧ (∀ w, (Instr.makeSlice 22 (.int .i64 (n : Int)) (.int .i64 (n : Int))).run Try.prog w = .ok (.slice (some ⟨w.heap.size, 0, none⟩) n n) (w.alloc (.cells NS 24))) := by
  obtain ⟨i0, hi0, hz0, hz1, hz2⟩ := info_parts slinfo
  refine ⟨madeCells (Value.slice none 0 0).cells (n * 1), ?_, ?_, fun w => ?_⟩
  · rw [size_madeCells, Nat.mul_one]
  · intro j hj
    rw [← Array.getElem?_toList, show (Value.slice none 0 0).cells = #[.slice none 0 0] from rfl, toList_madeCells_one, Nat.mul_one, List.getElem?_replicate, if_pos hj]
  · have h1 := run_makeSlice (P := Try.prog) (w := w) 22 _ i0 _ Try.underlying22 hi0 hz0 .i64 .i64 (n : Int) (n : Int) (by omega) (Int.le_refl _) (by rw [hz1]; simp; omega) (by rw [hz2]; omega) (by omega)
    rw [hz1] at h1
    simpa using h1
theorem noFields_it {lo hi b : Nat} {w : World} {NS : Array Value} {n : Nat} {t : TypeId} {f : Nat × Nat} (h : w.heap[b]? = some (.cells NS t f)) (h1 : lo ≤ b) (h2 : b < hi) (hj : ∀ j, j < n → NS[j]? = some (.slice none 0 0)) : ItI lo hi w (some ⟨b, 0, none⟩) (noFields n) := fun _ => by
  refine ⟨b, 0, rfl, h1, h2, fun k hk => ?_⟩
  have hk' : k < n := by simpa [noFields] using hk
  refine ⟨none, 0, ?_, ?_, fun h0 => ?_⟩
  · rw [cell_of_row w b (0 + k) _ _ _ h, Nat.zero_add, hj k hk']; simp [noFields]
  · simp [noFields]
  · simp [noFields, bvs] at h0
def OpenPost (b word : List UInt8) (n : Nat) (w : World) (e : Ending) (w' : World) : Prop := ∃ p, e = .returned (.pointer (some ⟨p, 0, none⟩)) ∧ Fld w' p w.heap.size ((openV b word n).getD (noFields n)) (!(openV b word n).isSome) ∧ Below w.heap.size w w'
theorem open_none {b word : List UInt8} {n : Nat} {w w1 : World} {NS : Array Value} (hb : Below w.heap.size w w1) (hj : ∀ j, j < n → NS[j]? = some (.slice none 0 0)) (ho : openV b word n = none) :
    OpenPost b word n w (.returned (.pointer (some ⟨w1.heap.size + 1, 0, none⟩))) ((w1.alloc (.cells NS 24)).alloc (.cells #[.slice (some ⟨w1.heap.size, 0, none⟩) n n, .bool true] 88)) := by
  have hsz : (w1.alloc (.cells NS 24)).heap.size = w1.heap.size + 1 := by simp
  refine ⟨_, rfl, ?_, (hb.alloc hb.size _).alloc (by rw [hsz]; have := hb.size; omega) _⟩
  rw [ho]
  refine ⟨⟨some ⟨w1.heap.size, 0, none⟩, n, ?_, by simp [noFields], ?_⟩, by have := hb.size; omega⟩
  · have h1 := heap_alloc_new (w1.alloc (.cells NS 24)) (.cells #[.slice (some ⟨w1.heap.size, 0, none⟩) n n, .bool true] 88)
    rw [hsz] at h1
    rw [h1]
    simp [noFields]
  · exact noFields_it (NS := NS) (by rw [Below.heap_alloc _ _ _ (by rw [hsz]; omega)]; exact heap_alloc_new w1 _) hb.size (by omega) hj
theorem open_some {b word x : List UInt8} {n b1 o1 c2 : Nat} {w w1 : World} {tl : List (List UInt8)} (hb : Below w.heap.size w w1) (hi : ItI w.heap.size w1.heap.size w1 (some ⟨b1, o1, none⟩) (x :: tl)) (hc : tl.length ≤ c2) (ho : openV b word n = some tl) :
    OpenPost b word n w (.returned (.pointer (some ⟨w1.heap.size, 0, none⟩))) (w1.alloc (.cells #[.slice (some ⟨b1, o1 + 1, none⟩) tl.length c2, .bool false] 88)) := by
  refine ⟨_, rfl, ?_, hb.alloc hb.size _⟩
  rw [ho]
  refine ⟨⟨some ⟨b1, o1 + 1, none⟩, c2, heap_alloc_new w1 _, hc, ?_⟩, hb.size⟩
  exact hi.tail.keep (Frm.of_below (ps := []) ((Below.refl _ w1).alloc (Nat.le_refl _) _)) (Nat.le_refl _) (by simp)
set_option maxRecDepth 100000 in
set_option maxHeartbeats 1000000 in
theorem open_any (A : Option Addr) (c n : Nat) (l word : List UInt8) (X : Int) (hX : X = (n : Int)) (hn : n ≤ 100) (hn0 : 0 < n) (w : World) (hr : Reads w w.heap.size 1 A l.length (bvs l)) (hc : l.length ≤ c) (hm : l.length ≤ 140737488355328) :
    Calls Try.prog 50 #[.slice A l.length c, .string ⟨word.toArray⟩, .int .i64 X] w (OpenPost l word n w) := by
  subst hX
  obtain ⟨NS, hNS, hNj, hmk⟩ := made_fields n hn
  have HNS := Lib.hid (And.intro hNS hNj)
  have hn64 : (n : Int) ≤ 100 := by omega
  have hnn : (0 : Int) ≤ (n : Int) := by omega
  have Hn0 := Lib.hid hn0
  clear hNS hNj hn hn0
  by_cases hE : decE l = 0
  · obtain ⟨ls, hls⟩ : ∃ ls, decV l = ls := ⟨_, rfl⟩
    have Hls := Lib.hid hls
    have HE := Lib.hid hE
    have HD : Hid (Calls Try.prog 25 #[.slice A l.length c] w fun e w1 => ∃ v, e = .returned (.tuple #[v, .int .i64 0]) ∧ OwnL w1 w.heap.size v ls ∧ Below w.heap.size w w1) := (Decode_any A c l w hr hc hm).mono (by
      rintro e w1 ⟨v, rfl, ho, hb⟩
      rw [hE]
      rw [hls] at ho
      exact ⟨v, rfl, ho, hb⟩)
    clear hr hc hm hE hls
    by_cases hlen : ls.length = n + 1
    · obtain ⟨x, tl, rfl⟩ : ∃ x tl, ls = x :: tl := by
        cases ls with
        | nil => simp at hlen
        | cons x tl => exact ⟨x, tl, rfl⟩
      have htl : tl.length = n := by simpa using hlen
      subst htl
      have HL := Lib.hid hlen
      clear hlen
      by_cases he : x = word
      · subst he
        have HO := Lib.hid (openV_yes HE.out (by rw [Hls.out]; exact HL.out) (show (decV l).getD 0 [] = x from (congrArg (fun m => m.getD 0 []) Hls.out).trans rfl))
        go_enter Try.func50, Try.ntmps50
        go_wp2_with (go_at_call 25; go_must (refine HD.out.mono ?_; rintro e w1 ⟨v, rfl, ho, hb⟩; obtain ⟨A1, c1, rfl, hc1, hi⟩ := itI_own ho; have HB := Lib.hid hb; have HI := Lib.hid hi; obtain ⟨b1, o1, rfl, h1, h2, h3⟩ := hi (by simp); obtain ⟨A', c', h4, h5, h6⟩ := h3 0 (by simp); rw [Nat.add_zero] at h4; have hcell : w1.cell? ⟨b1, o1, none⟩ = some (.slice A' x.length c') := h4; have h7 : RdI w.heap.size w1.heap.size w1 A' (bvs x) := h6; have hs := run_str8 (h7.reads (Nat.le_refl _)) c'; rw [List.length_cons]; have HC1 := Lib.hid hc1; have hc2 : tl.length + 1 ≤ c1 := hc1; have hcI : ((tl.length : Int) + 1) ≤ (c1 : Int) := (by omega); have hcn : ¬ c1 = 1 := (by have h_ := Hn0.out; omega); clear ho hb hi h1 h2 h3 h4 h5 h6 h7 hc1 hc2))
        go_ret
        exact open_some HB.out HI.out (by have h_ := HC1.out; simp at h_; omega) (by rw [HO.out, Hls.out]; rfl)
      · have hne : (!x == word) = true := by simp [he]
        have HNO := Lib.hid (openV_word (n := tl.length) (l := l) (word := word) (by rw [Hls.out]; exact he))
        go_enter Try.func50, Try.ntmps50
        go_wp2_with (go_at_call 25; go_must (refine HD.out.mono ?_; rintro e w1 ⟨v, rfl, ho, hb⟩; obtain ⟨A1, c1, rfl, hc1, hi⟩ := itI_own ho; have HB := Lib.hid hb; obtain ⟨b1, o1, rfl, h1, h2, h3⟩ := hi (by simp); obtain ⟨A', c', h4, h5, h6⟩ := h3 0 (by simp); rw [Nat.add_zero] at h4; have hcell : w1.cell? ⟨b1, o1, none⟩ = some (.slice A' x.length c') := h4; have h7 : RdI w.heap.size w1.heap.size w1 A' (bvs x) := h6; have hs := run_str8 (h7.reads (Nat.le_refl _)) c'; rw [List.length_cons]; clear ho hb hi h1 h2 h3 h4 h5 h6 h7 hc1))
        go_ret
        exact open_none HB.out HNS.out.2 HNO.out
    · have hlen' : ((ls.length : Int) != (n : Int) + 1) = true := by simp; omega
      have HNO := Lib.hid (openV_len (word := word) (n := n) (l := l) (by rw [Hls.out]; exact hlen))
      clear hlen
      go_enter Try.func50, Try.ntmps50
      go_wp2_with (go_at_call 25; go_must (refine HD.out.mono ?_; rintro e w1 ⟨v, rfl, ho, hb⟩; obtain ⟨A1, c1, rfl, hc1, hi⟩ := itI_own ho; have HB := Lib.hid hb; clear ho hb hi hc1))
      go_ret
      exact open_none HB.out HNS.out.2 HNO.out
  · have hX : ∃ x : Int, decE l = x ∧ ((x != 0) = true) ∧ decV l = [] := by
      rcases dec_cases l with h | ⟨h | h, h'⟩
      · exact absurd h.1 hE
      · exact ⟨2, h, rfl, h'⟩
      · exact ⟨6, h, rfl, h'⟩
    obtain ⟨x, hx, hx0, hv0⟩ := hX
    have HNO := Lib.hid (openV_bad (word := word) (n := n) hE)
    have HD : Hid (Calls Try.prog 25 #[.slice A l.length c] w fun e w1 => ∃ v, e = .returned (.tuple #[v, .int .i64 x]) ∧ OwnL w1 w.heap.size v (decV l) ∧ Below w.heap.size w w1) := (Decode_any A c l w hr hc hm).mono (by
      rintro e w1 ⟨v, rfl, ho, hb⟩
      rw [hx]
      exact ⟨v, rfl, ho, hb⟩)
    clear hr hc hm hE hx hv0
    go_enter Try.func50, Try.ntmps50
    go_wp2_with (go_at_call 25; go_must (refine HD.out.mono ?_; rintro e w1 ⟨v, rfl, ho, hb⟩; obtain ⟨A1, c1, rfl, hc1, hi⟩ := itI_own ho; have HB := Lib.hid hb; clear ho hb hi hc1))
    go_ret
    exact open_none HB.out HNS.out.2 HNO.out
end Go.Proofs.Ytbpgbihcihnieaa
