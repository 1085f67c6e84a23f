/- The texts N22 of this work, merged by wip/merge.py. No conditions. -/
import Derived.Test.YtbpgbihcihnieaaQN20
namespace Go.Proofs.Ytbpgbihcihnieaa
open Go.RowKit
theorem nodesOf_ok (b : List UInt8) : ∀ v ∈ nodesOf b, v.ok := fun v hv => by
  unfold nodesOf at hv
  split at hv
  · unfold nodesN at hv
    obtain ⟨k, hk, rfl⟩ := List.mem_map.1 hv
    have := List.mem_range.1 hk
    exact nodeAt_ok (by omega)
  · cases hv
theorem nodesOf_len (b : List UInt8) : (nodesOf b).length ≤ b.length := by
  unfold nodesOf
  split
  · rw [nodesN_length]; omega
  · simp
theorem stepE_cases (r : RootV) (ns : List NodeV) (ad lk : List UInt8) : stepE r ns ad lk = 0 ∨ stepE r ns ad lk = 1 ∨ stepE r ns ad lk = 6 := by
  unfold stepE encE
  split
  · split
    · exact .inl rfl
    · exact .inr (.inr rfl)
  · exact .inr (.inl rfl)
theorem step_ok {r : RootV} {ns : List NodeV} {ad lk : List UInt8} (h : stepE r ns ad lk = 0) : nodesG ns = true ∧ encOK (stepL r ns ad lk) = true := by
  unfold stepE encE at h
  split at h
  · rename_i hg
    split at h
    · rename_i ho; exact ⟨hg, ho⟩
    · cases h
  · cases h
theorem step_forth {r : RootV} {ns : List NodeV} {ad lk : List UInt8} (hr : r.ok) (hn : ∀ v ∈ ns, v.ok) (ha : ad.length % 64 = 0) (hl : lk.length % 96 = 0) (h : stepE r ns ad lk = 0) : stepD (stepB r ns ad lk) = some (r, ns, ad, lk) := by
  obtain ⟨hg, ho⟩ := step_ok h
  have h2 := nodes_forth hn hg
  unfold stepD stepB
  rw [if_pos hg, show stepL r ns ad lk = stepW :: [signB r, nodesB ns, ad, lk] from rfl, openV_enc (n := 4) (ls := [signB r, nodesB ns, ad, lk]) rfl ho]
  unfold stepO
  simp only [root_dec_enc hr]
  rw [if_pos (by simp [h2.1, ha, hl]), h2.2]
theorem step_none {r : RootV} {ns : List NodeV} {ad lk : List UInt8} (h : stepE r ns ad lk ≠ 0) : stepB r ns ad lk = [] := by
  unfold stepE encE at h
  unfold stepB
  by_cases hg : nodesG ns = true
  · rw [if_pos hg] at h ⊢
    by_cases ho : encOK (stepL r ns ad lk) = true
    · rw [if_pos ho] at h; exact absurd rfl h
    · exact encB_no (by simpa using ho)
  · rw [if_neg hg]
theorem step_back {b : List UInt8} {r : RootV} {ns : List NodeV} {ad lk : List UInt8} (h : stepD b = some (r, ns, ad, lk)) :
    stepB r ns ad lk = b ∧ stepE r ns ad lk = 0 ∧ r.ok ∧ (∀ v ∈ ns, v.ok) ∧ ad.length % 64 = 0 ∧ lk.length % 96 = 0 ∧ ns.length ≤ 1048576 ∧ ad.length ≤ 1048576 ∧ lk.length ≤ 1048576 := by
  unfold stepD at h
  cases h1 : openV b stepW 4 with
  | none => rw [h1] at h; cases h
  | some ls =>
    rw [h1] at h
    obtain ⟨x, n, a, l, rfl⟩ := four_of (openV_length h1)
    have hle := openV_le2 h1
    cases h2 : rootD x with
    | none => unfold stepO at h; simp only [h2] at h; cases h
    | some r' =>
      unfold stepO at h
      simp only [h2] at h
      split at h
      · rename_i hc
        simp only [Bool.and_eq_true, decide_eq_true_eq] at hc
        obtain ⟨⟨hn, ha⟩, hl⟩ := hc
        cases h
        have hb := nodes_back hn
        have hr := root_enc_dec h2
        have hL : stepL r (nodesOf n) ad lk = stepW :: [x, n, ad, lk] := by unfold stepL; rw [hr.1, hb.2]
        obtain ⟨hv, he⟩ := openV_list h1
        have hok := (dec_enc he).1
        rw [hv] at hok
        refine ⟨?_, ?_, hr.2, nodesOf_ok n, ha, hl, ?_, hle _ (by simp), hle _ (by simp)⟩
        · unfold stepB; rw [if_pos hb.1, hL]; exact openV_dec h1
        · unfold stepE; rw [if_pos hb.1, hL]; exact encE_ok hok
        · have h3 := nodesOf_len n
          have h4 := hle n (by simp)
          omega
      · cases h
abbrev StepT := RootV × List NodeV × List UInt8 × List UInt8
def stepR (b : List UInt8) : StepT := (stepD b).getD (rootZ, [], [], [])
def stepF (b : List UInt8) : Int := if (stepD b).isSome then 0 else 2
theorem stepF_cases (b : List UInt8) : stepF b = 0 ∨ stepF b = 2 := by unfold stepF; split <;> simp
theorem stepR_some {b : List UInt8} {q : StepT} (h : stepD b = some q) : stepR b = q ∧ stepF b = 0 := by unfold stepR stepF; rw [h]; exact ⟨rfl, rfl⟩
theorem stepR_of {b : List UInt8} (h : stepF b = 0) : stepD b = some (stepR b) := by
  unfold stepF at h
  unfold stepR
  cases hd : stepD b with
  | none => rw [hd] at h; cases h
  | some q => rfl
/-- What DecodeStep leaves: a step that may be read. -/
def SDP (b : List UInt8) (w : World) (e : Ending) (w' : World) : Prop :=
  ∃ (cs : Array Value) (An Aa Al : Option Addr) (cn na ca nl cl : Nat), e = .returned (.tuple #[.agg cs, .int .i64 (stepF b)]) ∧ StepIn w' cs (stepR b).1 (stepR b).2.1 (stepR b).2.2.1 (stepR b).2.2.2 An Aa Al cn na ca nl cl ∧ (cs.all fun x => x.oneCell') = true ∧ Below w.heap.size w w'
theorem reads_none (w : World) (B s : Nat) : Reads w B s none 0 [] := ⟨by simp, fun h => absurd h (by omega)⟩
theorem sdp {b : List UInt8} {w w' : World} {e : Ending} (h : SDPost b w e w') : SDP b w e w' := by
  rcases h with ⟨hd, he, hb⟩ | ⟨r, ns, ad, lk, An, Aa, Al, nn, cn, na, ca, nl, cl, hd, he, hn, ha, hl, hb⟩
  · have h1 : stepR b = (rootZ, [], [], []) ∧ stepF b = 2 := by unfold stepR stepF; rw [hd]; exact ⟨rfl, rfl⟩
    refine ⟨stepZ, none, none, none, 0, 0, 0, 0, 0, by rw [h1.2]; exact he, ?_, stepZ_one, hb⟩
    rw [h1.1]
    exact ⟨rfl, rootZ_ok, ⟨(fun _ h => by cases h), reads_none _ _ _⟩, by show 0 ≤ _; omega, reads_none _ _ _, by show 0 ≤ _; omega, reads_none _ _ _, by show 0 ≤ _; omega⟩
  · have h1 := stepR_some hd
    obtain ⟨_, _, k1, k2, k3, k4, k5, k6, k7⟩ := step_back hd
    obtain ⟨_, _, e1, _, r1⟩ := ownR_form hn
    obtain ⟨_, _, e2, _, r2⟩ := ownR_form ha
    obtain ⟨_, _, e3, _, r3⟩ := ownR_form hl
    injection e1 with e1a e1b e1c
    injection e2 with e2a e2b e2c
    injection e3 with e3a e3b e3c
    subst e1a e1b e2a e3a
    refine ⟨_, An, Aa, Al, cn, na, ca, nl, cl, by rw [h1.2]; exact he, ?_, step_one, hb⟩
    rw [h1.1]
    exact ⟨rfl, k1, ⟨k2, r1⟩, by show ns.length ≤ _; omega, r2, by show ad.length ≤ _; omega, r3, by show lk.length ≤ _; omega⟩
theorem DecodeStep_p (A : Option Addr) (c : Nat) (b : List UInt8) (w : World) (hr : Reads w w.heap.size 1 A b.length (bvs b)) (hc : b.length ≤ c) (hm : b.length ≤ 140737488355328) : Calls Try.prog 40 #[.slice A b.length c] w (SDP b w) := (DecodeStep_any A c b w hr hc hm).mono fun _ _ h => sdp h
theorem rDecodeStep_p (A : Option Addr) (c : Nat) (b : List UInt8) (w : World) (hr : Reads w w.heap.size 1 A b.length (bvs b)) (hc : b.length ≤ c) (hm : b.length ≤ 140737488355328) : Calls Try.prog 41 #[.slice A b.length c] w (SDP b w) := (rDecodeStep_any A c b w hr hc hm).mono fun _ _ h => sdp h
theorem EncodeStep_any (w : World) (cs : Array Value) (r : RootV) (ns : List NodeV) (ad lk : List UInt8) (An Aa Al : Option Addr) (cn na ca nl cl : Nat) (hs : StepIn w cs r ns ad lk An Aa Al cn na ca nl cl) : Calls Try.prog 38 #[.agg cs] w (StepPost r ns ad lk w) := by
  cases hg : nodesG ns with
  | false => exact EncodeStep_no w cs r ns ad lk An Aa Al cn na ca nl cl hs hg
  | true => exact EncodeStep_yes w cs r ns ad lk An Aa Al cn na ca nl cl hs hg
theorem rEncodeStep_any (w : World) (cs : Array Value) (r : RootV) (ns : List NodeV) (ad lk : List UInt8) (An Aa Al : Option Addr) (cn na ca nl cl : Nat) (hs : StepIn w cs r ns ad lk An Aa Al cn na ca nl cl) : Calls Try.prog 39 #[.agg cs] w (StepPost r ns ad lk w) := by
  cases hg : nodesG ns with
  | false => exact rEncodeStep_no w cs r ns ad lk An Aa Al cn na ca nl cl hs hg
  | true => exact rEncodeStep_yes w cs r ns ad lk An Aa Al cn na ca nl cl hs hg
theorem StepIn.len {w : World} {cs : Array Value} {r : RootV} {ns : List NodeV} {ad lk : List UInt8} {An Aa Al : Option Addr} {cn na ca nl cl : Nat} (h : StepIn w cs r ns ad lk An Aa Al cn na ca nl cl) : ad.length % 64 = 0 ∧ lk.length % 96 = 0 := by
  have h1 := h.had.1
  have h2 := h.hlk.1
  rw [bvs_length] at h1 h2
  omega
/-- An argument's step is written and read back. -/
theorem StepIn.forth {w : World} {cs : Array Value} {r : RootV} {ns : List NodeV} {ad lk : List UInt8} {An Aa Al : Option Addr} {cn na ca nl cl : Nat} (h : StepIn w cs r ns ad lk An Aa Al cn na ca nl cl) (hE : stepE r ns ad lk = 0) : stepR (stepB r ns ad lk) = (r, ns, ad, lk) ∧ stepF (stepB r ns ad lk) = 0 :=
  stepR_some (step_forth h.hok h.hns.1 h.len.1 h.len.2 hE)
theorem stepB_le {r : RootV} {ns : List NodeV} {ad lk : List UInt8} : (stepB r ns ad lk).length ≤ 1048576 := by
  unfold stepB
  split
  · cases hk : encOK (stepL r ns ad lk) with
    | false => rw [encB_no hk]; simp
    | true =>
      rw [encB_ok hk, List.length_append, be4_length, members_length]
      have : (stepL r ns ad lk).length ≤ 65536 ∧ 4 + bulk (stepL r ns ad lk) ≤ 1048576 := by simpa [encOK] using hk
      exact this.2
  · simp
end Go.Proofs.Ytbpgbihcihnieaa
