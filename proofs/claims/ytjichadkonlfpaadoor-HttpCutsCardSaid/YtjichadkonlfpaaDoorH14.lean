/- New, Ended, awake. No conditions. -/
import Derived.Test.YtjichadkonlfpaaDoorH13
import Derived.Lib.SlBytesConst
namespace Go.Proofs.YtjichadkonlfpaaDoor
open Go.RowKit
theorem Reads.bel {w w' : World} {B sz n : Nat} {A : Option Addr} {xs : List Value} (h : Reads w B sz A n xs) (hb : Below B w w') (hB : B ≤ w'.heap.size) : Reads w' w'.heap.size sz A n xs := by
  refine ⟨h.1, fun h0 => ?_⟩
  obtain ⟨ad, hA, hlt, hc⟩ := h.2 h0
  refine ⟨ad, hA, by omega, fun j u hu => ?_⟩
  have h1 : (ad.add j).block = ad.block := by unfold Addr.add; split <;> rfl
  rw [← hc j u hu]
  exact hb.cell (by rw [h1]; exact hlt)
theorem flat_at {α : Type} (f : α → List Value) (m : Nat) (hf : ∀ x, (f x).length = m) : ∀ (l : List α) (k : Nat) (hk : k < l.length) (j : Nat), j < m → (l.flatMap f)[k * m + j]? = (f l[k])[j]?
  | [], k, hk, _, _ => by simp at hk
  | x :: l, 0, _, j, hj => by
    rw [List.flatMap_cons, List.getElem?_append_left (by rw [hf]; omega), Nat.zero_mul, Nat.zero_add]
    rfl
  | x :: l, k + 1, hk, j, hj => by
    have ih := flat_at f m hf l k (by simpa using hk) j hj
    rw [List.flatMap_cons, List.getElem?_append_right (by rw [hf, Nat.succ_mul]; omega), hf, show (k + 1) * m + j - m = k * m + j from by rw [Nat.succ_mul]; omega, ih]
    rfl
/-- A request where it lies. -/
theorem Held.at_ {w : World} {v : Value} {L : List Held1} (h : Held w v L) (h0 : 0 < L.length) : ∃ b cap, v = .slice (some ⟨b, 0, none⟩) L.length cap ∧ b < w.heap.size ∧ v.ownBlock = some b ∧ ∀ (k : Nat) (hk : k < L.length), w.rangeAt b (k * 5) (reqC L[k]) := by
  obtain ⟨_, h2 | ⟨b, cap, cur, hv, _⟩⟩ := h.row
  · omega
  · have hr0 := h.row
    rw [hv] at hr0
    have hr := Reads.of_own hr0
    obtain ⟨ad, hA, hb, hc⟩ := hr.2 h0
    cases hA
    refine ⟨b, cap, hv, hb, by rw [hv]; rfl, fun k hk j u hu => ?_⟩
    have hj : j < 5 := by
      have := (List.getElem?_eq_some_iff.1 hu).1
      simpa [reqC] using this
    have := hc (k * 5 + j) u (by rw [reqsV, flat_at reqC 5 (fun _ => rfl) L k hk j hj]; exact hu)
    rw [add_none, Nat.zero_add] at this
    exact this
theorem one_of {L : List Held1} {q : Req} (h : L.map (·.1) = [q]) : ∃ x, L = [x] ∧ x.1 = q := by
  rcases L with _ | ⟨x, _ | ⟨y, L⟩⟩
  · simp at h
  · exact ⟨x, rfl, by simpa using h⟩
  · simp at h
def NewPost (w : World) (e : Ending) (w' : World) : Prop := ∃ g, e = .returned (.pointer (some ⟨g, 0, none⟩)) ∧ Par w' g (zeroP false) (.slice none 0 0) (.slice none 0 0) (.slice none 0 0) ∧ Below w.heap.size w w' ∧ w.heap.size ≤ g
set_option maxRecDepth 100000 in
set_option maxHeartbeats 400000 in
theorem new_any (w : World) : Calls Tryd.prog 9 #[] w (NewPost w) := by
  have hz : (Tryd.prog).built 48 [] = some (zeroC false) := by kernel_rfl
  have P := par_zero (heap_alloc_new w (.cells (zeroC false) 48))
  have hp : NewPost w (.returned (.pointer (some ⟨w.heap.size, 0, none⟩))) (w.alloc (.cells (zeroC false) 48)) := ⟨_, rfl, P, (Below.refl _ w).alloc (Nat.le_refl _) _, Nat.le_refl _⟩
  have HP := Lib.hid hp
  clear P hp
  obtain ⟨zc, hzc⟩ : ∃ zc : Array Value, zc = zeroC false := ⟨_, rfl⟩
  rw [← hzc] at HP hz
  have HZ := Lib.hid hz
  clear hz
  clear hzc
  go_enter Tryd.func9, Tryd.ntmps9
  go_wp2_with (refine wpList_build_to rfl _ _ rfl [] rfl _ (by with_reducible exact HZ.out) ?_)
  go_ret
  exact HP.out
set_option maxRecDepth 100000 in
theorem ended_any (w : World) (g : Nat) (s : PS) (W H B : Value) (P : Par w g s W H B) : Calls Tryd.prog 14 #[.pointer (some ⟨g, 0, none⟩)] w fun e w' => e = .returned (.bool s.en) ∧ w' = w := by
  have e1 := P.at_.2.1
  obtain ⟨en, hen⟩ : ∃ en, en = s.en := ⟨_, rfl⟩
  rw [← hen] at e1 ⊢
  clear P hen
  go_enter Tryd.func14, Tryd.ntmps14
  go_wp2
  go_ret
  exact ⟨rfl, rfl⟩
/-- A feed on a parser that has ended. -/
theorem feed_ended (w : World) (g : Nat) (s : PS) (W H B : Value) (x : Value) (P : Par w g s W H B) (hen : s.en = true) : Calls Tryd.prog 10 #[.pointer (some ⟨g, 0, none⟩), x] w fun e w' => e = .returned (.tuple #[.slice none 0 0, .int .i64 0]) ∧ w' = w := by
  have e1 := P.at_.2.1
  rw [hen] at e1
  clear P hen
  go_enter Tryd.func10, Tryd.ntmps10
  go_wp2
  go_step3
  go_wp2
  try rw [Exit.noGoto_ret]
  go_ret2
  exact ⟨rfl, rfl⟩
def awakeB : List UInt8 := [71, 69, 84, 32, 47, 32, 72, 84, 84, 80, 47, 49, 46, 49, 13, 10, 104, 111, 115, 116, 58, 32, 97, 13, 10, 13, 10]
theorem awake_fed : feedP (zeroP false) awakeB = (zeroP false, [⟨[71, 69, 84], [47], [([104, 111, 115, 116], [97])], [], false⟩], 0) := by kernel_rfl
/-- Behind a feed on a parser of the call's own: only what is new has been written. -/
theorem FS.below {g : Nat} {w0 w : World} {s : PS} {v W H B : Value} {L : List Held1} {K : Nat} (h : FS g (.slice none 0 0) (.slice none 0 0) (.slice none 0 0) w0 s v L W H B w) (hK : K ≤ g) (hK2 : K ≤ w0.heap.size) : Below K w0 w :=
  h.stp.frm.below hK2 (fun p hp => by
    have : p = g := by simpa [PL, Value.ownBlock] using hp
    omega)
set_option maxRecDepth 100000 in
set_option maxHeartbeats 1000000 in
theorem awake_any (w : World) : Calls Tryd.prog 7 #[] w fun e w' => e = .returned (.bool true) ∧ Below w.heap.size w w' := by
  have kc := fun (w : World) (C : Array Value) (n c : Nat) => Lib.run_convert_bytes_const (P := Tryd.prog) w 24 5 C n c Tryd.underlying24 Tryd.underlying5
  go_enter Tryd.func7, Tryd.ntmps7
  go_wp2_with (first
    | (go_at_call 9; go_must (refine (new_any w).mono ?_; rintro e w1 ⟨g, rfl, P1, hb, hg⟩; have HP1 := Lib.hid P1; have HB := Lib.hid hb; have HG := Lib.hid hg; clear P1 hb hg))
    | (go_at_call 10; go_must (
        have N1 : Below w1.heap.size w1 (w1.alloc (.cells (bvs awakeB).toArray 5 (27, 28))) := (Below.refl _ _).alloc (Nat.le_refl _) _
        have P2 := HP1.out.below N1
        have hR := reads_block (l := awakeB) (n := 27) (heap_alloc_new w1 (.cells (bvs awakeB).toArray 5 (27, 28))) rfl
        have hg_ := lt_of_heap HP1.out.row
        refine (feed_any _ g (zeroP false) _ _ _ awakeB _ 27 _ P2 (ok_zero false) (by simp [zeroP]) rfl hR (by intro _ b off h; cases h; simp [PL, Value.ownBlock]; omega) (by rw [awake_fed]; decide) (by decide)).mono ?_
        rintro e w3 ⟨v, L, W3, H3, B3, rfl, hL, F⟩
        rw [awake_fed] at hL
        have HF := Lib.hid (Below.trans (HB.out.trans (N1.mono HB.out.size)) (F.below HG.out (Nat.le_trans HB.out.size N1.size)))
        obtain ⟨x, hx, hxv⟩ := one_of hL
        subst hx
        obtain ⟨b, cap, hv, _, _, hat⟩ := F.held.at_ (by simp)
        have ha := hat 0 (by simp)
        have q0 := ha 0 _ rfl
        have q1 := ha 1 _ rfl
        have q4 := ha 4 _ rfl
        rw [show ([x] : List Held1)[0].1 = _ from hxv] at q0 q1 q4
        subst hv
        clear F hR hat ha hL N1 P2 hg_ hxv)))
  go_ret
  exact ⟨rfl, HF.out⟩
end Go.Proofs.YtjichadkonlfpaaDoor
