/- The texts H3c H3d of this work, merged by wip/merge.py. No conditions. -/
import Derived.Test.YtjichadkonlfpaaDoorQHS
import Derived.Test.YtjichadkonlfpaaDoorQHR
namespace Go.Proofs.YtjichadkonlfpaaDoor
open Go.RowKit
theorem wpList_build_to {P : Program} {ops : Array Oper} {rest : List Oper} {o : Oper} {a : Act} {w : World} {Q : Exit → Act → World → Prop} (hg : o.guard = none) (t : TypeId) (parts : Array (Nat × Operand)) (ho : o.op = .build t parts)
    (vs : List (Nat × Value)) (hvs : parts.toList.map (fun p => (p.1, a.eval p.2)) = vs) (cells : Array Value) (hb : P.built t vs = some cells)
    (h : wpList P ops Q rest (a.put o.dst (.agg cells)) w) : wpList P ops Q (o :: rest) a w := by
  have hv : (parts.map fun (i, x) => (i, a.eval x)).toList = vs := by rw [← hvs]; simp
  refine wpList_build hg t parts ho (by rw [hv, hb]; rfl) ?_
  rw [hv, hb]
  exact h
theorem built_hdr0 (ps : List (Nat × Value)) : (Tryd.prog).built 55 ps = Instr.fill ([(0, 1), (1, 1)].toArray[·]?) #[.string ⟨#[]⟩, .string ⟨#[]⟩] ps := by kernel_rfl
theorem built_hdr (l : List UInt8) : (Tryd.prog).built 55 [(0, .string ⟨l.toArray⟩)] = some #[.string ⟨l.toArray⟩, .string ⟨#[]⟩] := by
  rw [built_hdr0]
  rfl
theorem hdrinfo : (Tryd.prog.info? 55).map (fun i => (i.zero, i.size, i.bytes)) = some (some (.agg #[.string ⟨#[]⟩, .string ⟨#[]⟩]), 2, 32) := by kernel_rfl
theorem lower_any (l : List UInt8) (hl : l.length ≤ 140737488355328) (ha : ∀ b ∈ l, b.toNat < 128) (w : World) : Calls Tryd.prog 27 #[.string ⟨l.toArray⟩] w fun e w' => e = .returned (.string ⟨(Lib.toLowerA l).toArray⟩) ∧ Below w.heap.size w w' := by
  have h := Tryd.strings_ToLower_ascii ⟨l.toArray⟩ w (by simpa [ByteArray.size] using hl) (fun j b hb => ha b (List.mem_of_getElem? (by simpa using hb)))
  simpa using h
theorem trim_any (l : List UInt8) (cs : ByteArray) (hl : l.length ≤ 140737488355328) (hc : cs.size < 4294967281) (ha : ∀ (j : Nat) b, cs.data.toList[j]? = some b → b.toNat < 128) (w : World) : Calls Tryd.prog 30 #[.string ⟨l.toArray⟩, .string cs] w fun e w' => e = .returned (.string ⟨(Lib.trimS l cs.data.toList).toArray⟩) ∧ Below w.heap.size w w' := by
  have hsz : (ByteArray.mk l.toArray).size = l.length := by simp [ByteArray.size]
  have h := Any.strings_Trim_laid Tryd.lays160 (by kernel_rfl) ⟨l.toArray⟩ cs w (by omega) hc ha
  exact h
theorem hsV_snoc (hs : List (List UInt8 × List UInt8)) (p : List UInt8 × List UInt8) : hsV (hs ++ [p]) = hsV hs ++ [.string ⟨p.1.toArray⟩, .string ⟨p.2.toArray⟩] := by simp [hsV]
theorem hsV_len : ∀ hs : List (List UInt8 × List UInt8), (hsV hs).length = hs.length * 2
  | [] => rfl
  | p :: hs => by
    have := hsV_len hs
    simp only [hsV, List.flatMap_cons, List.length_append, List.length_cons, List.length_nil] at this ⊢
    omega
theorem hsV_last (hs : List (List UInt8 × List UInt8)) (p : List UInt8 × List UInt8) (v : List UInt8) : (hsV (hs ++ [p])).set (hs.length * 2 + 1) (.string ⟨v.toArray⟩) = hsV (hs ++ [(p.1, v)]) := by
  rw [hsV_snoc, hsV_snoc, List.set_append_right _ _ (by rw [hsV_len]; omega), hsV_len, show hs.length * 2 + 1 - hs.length * 2 = 1 from by omega]
  rfl
theorem setLast_snoc (hs : List (List UInt8 × List UInt8)) (p : List UInt8 × List UInt8) (v : List UInt8) : setLast (hs ++ [p]) v = hs ++ [(p.1, v)] := by simp [setLast]
/-- The last header's value is written. -/
theorem Par.setH {w : World} {g hb n cap j : Nat} {s : PS} {W B u : Value} {l : List (List UInt8 × List UInt8)} (h : Par w g s W (.slice (some ⟨hb, 0, none⟩) n cap) B) (hn : s.hs.length = n) (hl : l.length = n) (hV : (hsV s.hs).set j u = hsV l) :
    Par (w.setCell ⟨hb, j, none⟩ u) g { s with hs := l } W (.slice (some ⟨hb, 0, none⟩) n cap) B ∧ PStep g W (.slice (some ⟨hb, 0, none⟩) n cap) B w W (.slice (some ⟨hb, 0, none⟩) n cap) B (w.setCell ⟨hb, j, none⟩ u) := by
  subst hn
  have ho : (Value.slice (some ⟨hb, 0, none⟩) s.hs.length cap).ownBlock = some hb := rfl
  have hne : hb ≠ g := fun e => h.gh (by rw [ho, e])
  have hf := Frm.setCell w hb j u
  have st := World.ownsRow.stored h.hs j u
  rw [hV] at st
  refine ⟨⟨hf.heap h.row (by simpa using Ne.symm hne), ?_, ?_, ?_, h.gw, h.gh, h.gb, h.wh, h.wb, h.hb⟩, ⟨hf.more (by simp [PL, ho]), fun _ hk => .inl hk⟩⟩
  · exact ownR_frms h.wd hf (fun q hq => .inr (by rw [List.mem_singleton.1 hq]; exact fun e => h.wh hb e ho))
  · have h2 := st.1
    rw [← hl] at h2 ⊢
    exact h2
  · exact ownR_frms h.bd hf (fun q hq => .inr (by rw [List.mem_singleton.1 hq]; exact h.hb hb ho))
set_option maxRecDepth 100000 in
set_option maxHeartbeats 1000000 in
theorem ih6a (w : World) (g : Nat) (s : PS) (W H B : Value) (c : UInt8) (P : Par w g s W H B) (hl : s.wd.length + 1 ≤ 140737488355328) (hst : s.st = 6) (h0 : ((c.toNat : Int) == 13) = true) (h1 : ((s.wd.length : Int) == 0) = true) : Calls Tryd.prog 21 #[.pointer (some ⟨g, 0, none⟩), .int .u8 (c.toNat : Int)] w (PPost g W H B w (({ s with st := 8 }, (0 : Int))).1 (.int .i64 (({ s with st := 8 }, (0 : Int))).2)) := by
  have q0 : ((c.toNat : Int) != 13) = false := by rw [bne, h0]; rfl
  have _q1 : ((s.wd.length : Int) != 0) = false := by rw [bne, h1]; rfl
  have HP := Lib.hid P
  have HL := Lib.hid hl
  have HST := Lib.hid hst
  have e_ := P.at_
  rw [hst] at e_
  obtain ⟨e0, _, _, e3, _, _, e6, _, _, e9, _⟩ := e_
  have f0 := P.fz 0
  have S2 := Lib.hid (P.set (s' := { s with st := 8 }) 0 (.int .i64 8) rfl rfl rfl rfl)
  obtain ⟨n, hn⟩ : ∃ n, n = s.wd.length := ⟨_, rfl⟩
  rw [← hn] at h1
  have p1 : n = 0 := by simp at h1; omega
  clear h1
  have hz0 : n = 0 := by omega
  rw [hz0] at hn
  obtain ⟨A, cW, hW, _, _⟩ := own8_form' (n := 0) P.wd hn.symm
  have HN := Lib.hid hn
  clear hn
  subst hW
  clear P hl hst
  go_enter Tryd.func21, Tryd.ntmps21
  go_wp2
  go_ret
  exact ⟨rfl, _, H, B, S2.out.1, S2.out.2⟩
set_option maxRecDepth 100000 in
set_option maxHeartbeats 1000000 in
theorem ih6b0 (w : World) (g : Nat) (s : PS) (W H B : Value) (c : UInt8) (P : Par w g s W H B) (hl : s.wd.length + 1 ≤ 140737488355328) (hst : s.st = 6) (h0 : ((c.toNat : Int) == 13) = false) (h1 : ((c.toNat : Int) == 58) = false) (h2 : letterB c = true) : Calls Tryd.prog 21 #[.pointer (some ⟨g, 0, none⟩), .int .u8 (c.toNat : Int)] w (PPost g W H B w (takeP s c true).1 (.int .i64 (takeP s c true).2)) := by
  have q0 : ((c.toNat : Int) != 13) = true := by rw [bne, h0]; rfl
  have q1 : ((c.toNat : Int) != 58) = true := by rw [bne, h1]; rfl
  have hL_ := h2
  have HP := Lib.hid P
  have HL := Lib.hid hl
  have HST := Lib.hid hst
  have e_ := P.at_
  rw [hst] at e_
  obtain ⟨e0, _, _, e3, _, _, e6, _, _, e9, _⟩ := e_
  obtain ⟨n, hn⟩ : ∃ n, n = s.wd.length := ⟨_, rfl⟩
  obtain ⟨A, cW, hW, _, _⟩ := own8_form' (n := n) P.wd hn.symm
  have HN := Lib.hid hn
  clear hn
  subst hW
  clear P hl hst
  go_enter Tryd.func21, Tryd.ntmps21
  go_wp2_with (first
    | (go_at_call 28; go_must (refine (letter_any c _).mono ?_; rintro e w1 ⟨rfl, rfl⟩; rw [hL_]))
    | (go_at_call 29; go_must (refine (digit_any c _).mono ?_; rintro e w1 ⟨rfl, rfl⟩; rw [hD_]))
    | (go_at_call 26; go_must (refine (take_any _ g s _ H B c _ HP.out HL.out).mono ?_; rintro e w1 ⟨rfl, W1, H1, B1, P1, S1⟩; have HP1 := Lib.hid P1; have HS1 := Lib.hid S1; clear P1 S1)))
  go_ret
  exact ⟨rfl, W1, H1, B1, HP1.out, HS1.out⟩
set_option maxRecDepth 100000 in
set_option maxHeartbeats 1000000 in
theorem ih6b1 (w : World) (g : Nat) (s : PS) (W H B : Value) (c : UInt8) (P : Par w g s W H B) (hl : s.wd.length + 1 ≤ 140737488355328) (hst : s.st = 6) (h0 : ((c.toNat : Int) == 13) = false) (h1 : ((c.toNat : Int) == 58) = false) (h2 : letterB c = false) (h3 : digitB c = true) : Calls Tryd.prog 21 #[.pointer (some ⟨g, 0, none⟩), .int .u8 (c.toNat : Int)] w (PPost g W H B w (takeP s c true).1 (.int .i64 (takeP s c true).2)) := by
  have q0 : ((c.toNat : Int) != 13) = true := by rw [bne, h0]; rfl
  have q1 : ((c.toNat : Int) != 58) = true := by rw [bne, h1]; rfl
  have hL_ := h2
  have hD_ := h3
  have HP := Lib.hid P
  have HL := Lib.hid hl
  have HST := Lib.hid hst
  have e_ := P.at_
  rw [hst] at e_
  obtain ⟨e0, _, _, e3, _, _, e6, _, _, e9, _⟩ := e_
  obtain ⟨n, hn⟩ : ∃ n, n = s.wd.length := ⟨_, rfl⟩
  obtain ⟨A, cW, hW, _, _⟩ := own8_form' (n := n) P.wd hn.symm
  have HN := Lib.hid hn
  clear hn
  subst hW
  clear P hl hst
  go_enter Tryd.func21, Tryd.ntmps21
  go_wp2_with (first
    | (go_at_call 28; go_must (refine (letter_any c _).mono ?_; rintro e w1 ⟨rfl, rfl⟩; rw [hL_]))
    | (go_at_call 29; go_must (refine (digit_any c _).mono ?_; rintro e w1 ⟨rfl, rfl⟩; rw [hD_]))
    | (go_at_call 26; go_must (refine (take_any _ g s _ H B c _ HP.out HL.out).mono ?_; rintro e w1 ⟨rfl, W1, H1, B1, P1, S1⟩; have HP1 := Lib.hid P1; have HS1 := Lib.hid S1; clear P1 S1)))
  go_ret
  exact ⟨rfl, W1, H1, B1, HP1.out, HS1.out⟩
set_option maxRecDepth 100000 in
set_option maxHeartbeats 1000000 in
theorem ih6b2 (w : World) (g : Nat) (s : PS) (W H B : Value) (c : UInt8) (P : Par w g s W H B) (hl : s.wd.length + 1 ≤ 140737488355328) (hst : s.st = 6) (h0 : ((c.toNat : Int) == 13) = false) (h1 : ((c.toNat : Int) == 58) = false) (h2 : letterB c = false) (h3 : digitB c = false) (h4 : ((c.toNat : Int) == 45) = true) : Calls Tryd.prog 21 #[.pointer (some ⟨g, 0, none⟩), .int .u8 (c.toNat : Int)] w (PPost g W H B w (takeP s c true).1 (.int .i64 (takeP s c true).2)) := by
  have q0 : ((c.toNat : Int) != 13) = true := by rw [bne, h0]; rfl
  have q1 : ((c.toNat : Int) != 58) = true := by rw [bne, h1]; rfl
  have hL_ := h2
  have hD_ := h3
  have q4 : ((c.toNat : Int) != 45) = false := by rw [bne, h4]; rfl
  have HP := Lib.hid P
  have HL := Lib.hid hl
  have HST := Lib.hid hst
  have e_ := P.at_
  rw [hst] at e_
  obtain ⟨e0, _, _, e3, _, _, e6, _, _, e9, _⟩ := e_
  obtain ⟨n, hn⟩ : ∃ n, n = s.wd.length := ⟨_, rfl⟩
  obtain ⟨A, cW, hW, _, _⟩ := own8_form' (n := n) P.wd hn.symm
  have HN := Lib.hid hn
  clear hn
  subst hW
  clear P hl hst
  go_enter Tryd.func21, Tryd.ntmps21
  go_wp2_with (first
    | (go_at_call 28; go_must (refine (letter_any c _).mono ?_; rintro e w1 ⟨rfl, rfl⟩; rw [hL_]))
    | (go_at_call 29; go_must (refine (digit_any c _).mono ?_; rintro e w1 ⟨rfl, rfl⟩; rw [hD_]))
    | (go_at_call 26; go_must (refine (take_any _ g s _ H B c _ HP.out HL.out).mono ?_; rintro e w1 ⟨rfl, W1, H1, B1, P1, S1⟩; have HP1 := Lib.hid P1; have HS1 := Lib.hid S1; clear P1 S1)))
  go_ret
  exact ⟨rfl, W1, H1, B1, HP1.out, HS1.out⟩
set_option maxRecDepth 100000 in
set_option maxHeartbeats 1000000 in
theorem ih6b3 (w : World) (g : Nat) (s : PS) (W H B : Value) (c : UInt8) (P : Par w g s W H B) (hl : s.wd.length + 1 ≤ 140737488355328) (hst : s.st = 6) (h0 : ((c.toNat : Int) == 13) = false) (h1 : ((c.toNat : Int) == 58) = false) (h2 : letterB c = false) (h3 : digitB c = false) (h4 : ((c.toNat : Int) == 45) = false) : Calls Tryd.prog 21 #[.pointer (some ⟨g, 0, none⟩), .int .u8 (c.toNat : Int)] w (PPost g W H B w (takeP s c false).1 (.int .i64 (takeP s c false).2)) := by
  have q0 : ((c.toNat : Int) != 13) = true := by rw [bne, h0]; rfl
  have q1 : ((c.toNat : Int) != 58) = true := by rw [bne, h1]; rfl
  have hL_ := h2
  have hD_ := h3
  have q4 : ((c.toNat : Int) != 45) = true := by rw [bne, h4]; rfl
  have HP := Lib.hid P
  have HL := Lib.hid hl
  have HST := Lib.hid hst
  have e_ := P.at_
  rw [hst] at e_
  obtain ⟨e0, _, _, e3, _, _, e6, _, _, e9, _⟩ := e_
  obtain ⟨n, hn⟩ : ∃ n, n = s.wd.length := ⟨_, rfl⟩
  obtain ⟨A, cW, hW, _, _⟩ := own8_form' (n := n) P.wd hn.symm
  have HN := Lib.hid hn
  clear hn
  subst hW
  clear P hl hst
  go_enter Tryd.func21, Tryd.ntmps21
  go_wp2_with (first
    | (go_at_call 28; go_must (refine (letter_any c _).mono ?_; rintro e w1 ⟨rfl, rfl⟩; rw [hL_]))
    | (go_at_call 29; go_must (refine (digit_any c _).mono ?_; rintro e w1 ⟨rfl, rfl⟩; rw [hD_]))
    | (go_at_call 26; go_must (refine (take_any _ g s _ H B c _ HP.out HL.out).mono ?_; rintro e w1 ⟨rfl, W1, H1, B1, P1, S1⟩; have HP1 := Lib.hid P1; have HS1 := Lib.hid S1; clear P1 S1)))
  go_ret
  exact ⟨rfl, W1, H1, B1, HP1.out, HS1.out⟩
set_option maxRecDepth 100000 in
set_option maxHeartbeats 1000000 in
theorem ih6c (w : World) (g : Nat) (s : PS) (W H B : Value) (c : UInt8) (P : Par w g s W H B) (hl : s.wd.length + 1 ≤ 140737488355328) (hst : s.st = 6) (h0 : ((c.toNat : Int) == 13) = false) (h1 : ((c.toNat : Int) == 58) = true) (h2 : decide ((0 : Int) < (s.wd.length : Int)) = false) (h3 : letterB c = false) (h4 : digitB c = false) (h5 : ((c.toNat : Int) == 45) = false) : Calls Tryd.prog 21 #[.pointer (some ⟨g, 0, none⟩), .int .u8 (c.toNat : Int)] w (PPost g W H B w (takeP s c false).1 (.int .i64 (takeP s c false).2)) := by
  have q0 : ((c.toNat : Int) != 13) = true := by rw [bne, h0]; rfl
  have q1 : ((c.toNat : Int) != 58) = false := by rw [bne, h1]; rfl
  have hL_ := h3
  have hD_ := h4
  have q5 : ((c.toNat : Int) != 45) = true := by rw [bne, h5]; rfl
  have HP := Lib.hid P
  have HL := Lib.hid hl
  have HST := Lib.hid hst
  have e_ := P.at_
  rw [hst] at e_
  obtain ⟨e0, _, _, e3, _, _, e6, _, _, e9, _⟩ := e_
  obtain ⟨n, hn⟩ : ∃ n, n = s.wd.length := ⟨_, rfl⟩
  rw [← hn] at h2
  have p2 : n = 0 := by simp at h2; omega
  clear h2
  have hz0 : n = 0 := by omega
  rw [hz0] at hn
  obtain ⟨A, cW, hW, _, _⟩ := own8_form' (n := 0) P.wd hn.symm
  have HN := Lib.hid hn
  clear hn
  subst hW
  clear P hl hst
  go_enter Tryd.func21, Tryd.ntmps21
  go_wp2_with (first
    | (go_at_call 28; go_must (refine (letter_any c _).mono ?_; rintro e w1 ⟨rfl, rfl⟩; rw [hL_]))
    | (go_at_call 29; go_must (refine (digit_any c _).mono ?_; rintro e w1 ⟨rfl, rfl⟩; rw [hD_]))
    | (go_at_call 26; go_must (refine (take_any _ g s _ H B c _ HP.out HL.out).mono ?_; rintro e w1 ⟨rfl, W1, H1, B1, P1, S1⟩; have HP1 := Lib.hid P1; have HS1 := Lib.hid S1; clear P1 S1)))
  go_ret
  exact ⟨rfl, W1, H1, B1, HP1.out, HS1.out⟩
set_option maxRecDepth 100000 in
set_option maxHeartbeats 1000000 in
theorem ih6d (w : World) (g : Nat) (s : PS) (W H B : Value) (c : UInt8) (P : Par w g s W H B) (hl : s.wd.length + 1 ≤ 140737488355328) (hst : s.st = 6) (h0 : ((c.toNat : Int) == 13) = true) (h1 : ((s.wd.length : Int) == 0) = false) (h2 : ((c.toNat : Int) == 58) = false) (h3 : letterB c = false) (h4 : digitB c = false) (h5 : ((c.toNat : Int) == 45) = false) : Calls Tryd.prog 21 #[.pointer (some ⟨g, 0, none⟩), .int .u8 (c.toNat : Int)] w (PPost g W H B w (takeP s c false).1 (.int .i64 (takeP s c false).2)) := by
  have q0 : ((c.toNat : Int) != 13) = false := by rw [bne, h0]; rfl
  have _q1 : ((s.wd.length : Int) != 0) = true := by rw [bne, h1]; rfl
  have q2 : ((c.toNat : Int) != 58) = true := by rw [bne, h2]; rfl
  have hL_ := h3
  have hD_ := h4
  have q5 : ((c.toNat : Int) != 45) = true := by rw [bne, h5]; rfl
  have HP := Lib.hid P
  have HL := Lib.hid hl
  have HST := Lib.hid hst
  have e_ := P.at_
  rw [hst] at e_
  obtain ⟨e0, _, _, e3, _, _, e6, _, _, e9, _⟩ := e_
  obtain ⟨n, hn⟩ : ∃ n, n = s.wd.length := ⟨_, rfl⟩
  rw [← hn] at h1
  have p1 : 0 < n := by simp at h1; omega
  have i1 : (0 : Int) < (n : Int) := by omega
  clear h1
  obtain ⟨A, cW, hW, _, _⟩ := own8_form' (n := n) P.wd hn.symm
  have HN := Lib.hid hn
  clear hn
  subst hW
  clear P hl hst
  go_enter Tryd.func21, Tryd.ntmps21
  go_wp2_with (first
    | (go_at_call 28; go_must (refine (letter_any c _).mono ?_; rintro e w1 ⟨rfl, rfl⟩; rw [hL_]))
    | (go_at_call 29; go_must (refine (digit_any c _).mono ?_; rintro e w1 ⟨rfl, rfl⟩; rw [hD_]))
    | (go_at_call 26; go_must (refine (take_any _ g s _ H B c _ HP.out HL.out).mono ?_; rintro e w1 ⟨rfl, W1, H1, B1, P1, S1⟩; have HP1 := Lib.hid P1; have HS1 := Lib.hid S1; clear P1 S1)))
  go_ret
  exact ⟨rfl, W1, H1, B1, HP1.out, HS1.out⟩
set_option maxRecDepth 100000 in
set_option maxHeartbeats 2000000 in
theorem ih6h (w : World) (g : Nat) (s : PS) (W H B : Value) (c : UInt8) (P : Par w g s W H B) (hl : s.wd.length + 1 ≤ 140737488355328) (hst : s.st = 6) (h0 : ((c.toNat : Int) == 13) = false) (h1 : ((c.toNat : Int) == 58) = true) (h2 : decide ((0 : Int) < (s.wd.length : Int)) = true) (hasc : ∀ b ∈ s.wd, b.toNat < 128) (hh : s.hs.length ≤ 1000000000) :
    Calls Tryd.prog 21 #[.pointer (some ⟨g, 0, none⟩), .int .u8 (c.toNat : Int)] w (PPost g W H B w { s with hs := s.hs ++ [(Lib.toLowerA s.wd, [])], wd := [], st := 7 } (.int .i64 0)) := by
  have q0 : ((c.toNat : Int) != 13) = true := by rw [bne, h0]; rfl
  have q1 : ((c.toNat : Int) != 58) = false := by rw [bne, h1]; rfl
  have HP := Lib.hid P
  have HL := Lib.hid hl
  have HA := Lib.hid hasc
  have HH := Lib.hid hh
  have e_ := P.at_
  rw [hst] at e_
  obtain ⟨e0, _, _, e3, _, _, e6, _, _, _, _⟩ := e_
  obtain ⟨n, hn⟩ : ∃ n, n = s.wd.length := ⟨_, rfl⟩
  rw [← hn] at h2
  have p1 : 0 < n := by simp at h2; omega
  have i1 : (0 : Int) < (n : Int) := by omega
  obtain ⟨A, cW, hW, _, _⟩ := own8_form' (n := n) P.wd hn.symm
  subst hW
  obtain ⟨Ah, ch, hH, _, _⟩ := ownR_form P.hs
  subst hH
  clear P hl hst h2 hasc hh hn
  go_enter Tryd.func21, Tryd.ntmps21
  go_wp2
  refine AnyCZ.start [15] (fun w' => w'.cell? ⟨g, 6, none⟩ = some (.slice Ah s.hs.length ch)) (by kernel_rfl) rfl ?_
  intro w1 hb1
  have P1 := Lib.hid (HP.out.below hb1)
  have S1 : Hid (PStep g (.slice A n cW) (.slice Ah s.hs.length ch) B w (.slice A n cW) (.slice Ah s.hs.length ch) B w1) := PStep.of_below hb1
  clear hb1 e0 e3 e6
  apply AnyCZ.take (i := 0) rfl (by kernel_rfl) (by kernel_rfl) rfl
  · intro w' hC K hK
    go_wp2
    exact hK
  · rfl
  apply AnyCZ.take (i := 1) rfl (by kernel_rfl) (by kernel_rfl) rfl
  · intro w' hC K hK
    go_wp2
    exact hK
  · rfl
  apply AnyCZ.take (i := 2) rfl (by kernel_rfl) (by kernel_rfl) rfl
  · intro w' hC K hK
    go_wp2
    exact hK
  · rfl
  apply AnyCZ.take (i := 3) rfl (by kernel_rfl) (by kernel_rfl) rfl
  · intro w' hC K hK
    go_wp2
    exact hK
  · rfl
  apply AnyCZ.take (i := 4) rfl (by kernel_rfl) (by kernel_rfl) rfl
  · intro w' hC K hK
    go_wp2
    exact hK
  · rfl
  apply AnyCZ.take (i := 5) rfl (by kernel_rfl) (by kernel_rfl) rfl
  · intro w' hC K hK
    have cc := hC
    go_wp2
    exact hK
  · rfl
  apply AnyCZ.take (i := 6) rfl (by kernel_rfl) (by kernel_rfl) rfl
  · intro w' hC K hK
    go_wp2
    exact hK
  · rfl
  apply AnyCZ.solo (i := 7) rfl (by kernel_rfl) P1.out.at_.2.2.2.2.2.2.1
  go_wp2_with (go_at_call 25; go_must (refine (done_st w1 g s _ _ B 7 P1.out).mono ?_; rintro e w2 ⟨rfl, P2, S2⟩; have HP2 := Lib.hid P2; have HS2 := Lib.hid (S1.out.trans S2); clear P2 S2))
  refine ⟨rfl, ?_⟩
  apply AnyCZ.solo (i := 8) rfl (by kernel_rfl) HP2.out.at_.2.2.2.2.2.2.1
  go_wp2_with (go_at_call 27; go_must (refine (lower_any s.wd (by have h_ := HL.out; omega) HA.out w2).mono ?_; rintro e w3 ⟨rfl, hb3⟩; have HP3 := Lib.hid (HP2.out.below hb3); have HS3 := Lib.hid (HS2.out.trans (PStep.of_below hb3)); clear hb3))
  refine ⟨rfl, ?_⟩
  apply AnyCZ.take (i := 9) rfl (by kernel_rfl) (by kernel_rfl) rfl
  · intro w' hC K hK
    refine wpList_build_to rfl _ _ rfl [(0, .string ⟨(Lib.toLowerA s.wd).toArray⟩)] rfl _ (built_hdr _) ?_
    go_wp2
    exact hK
  · rfl
  apply AnyCZ.solo (i := 10) rfl (by kernel_rfl) HP3.out.at_.2.2.2.2.2.2.1
  obtain ⟨i0, hi0, hz0, hz1, hz2⟩ := info_parts hdrinfo
  refine slice1 (cs := #[.string ⟨(Lib.toLowerA s.wd).toArray⟩, .string ⟨#[]⟩]) (s := 2) rfl rfl rfl rfl Tryd.underlying34 hi0 hz0 hz1 (by decide) ?_
  go_wp2
  refine ⟨rfl, ?_⟩
  have B4 : Hid (Below w3.heap.size w3 (w3.alloc (.cells #[.string ⟨(Lib.toLowerA s.wd).toArray⟩, .string ⟨#[]⟩] 55))) := (Below.refl _ _).alloc (Nat.le_refl _) _
  have HP4 := Lib.hid (HP3.out.below B4.out)
  apply AnyCZ.solo (i := 11) rfl (by kernel_rfl) HP4.out.at_.2.2.2.2.2.2.1
  refine app1 (cs := #[.string ⟨(Lib.toLowerA s.wd).toArray⟩, .string ⟨#[]⟩]) (n := s.hs.length) (xs := hsV s.hs) (base := 0) rfl rfl rfl rfl Tryd.underlying34 hi0 hz0 hz1 hz2 rfl (by decide) HP4.out.hs (heap_alloc_new _ _) rfl (by kernel_rfl) (by have h_ := HH.out; omega) (by have h_ := HH.out; omega) (Nat.zero_le _) ?_
  intro v5 w5 ho hg hx
  obtain ⟨A5, c5, hv5, _, _⟩ := ownR_form ho
  subst hv5
  have Q := HP3.out.appH (l := s.hs ++ [(Lib.toLowerA s.wd, [])]) B4.out (by rw [hsV_snoc, List.length_append]; exact ho) hg hx
  obtain ⟨e6', f6', P5, S5⟩ := Q
  have HP5 := Lib.hid P5
  have HS5 := Lib.hid (HS3.out.trans S5)
  clear P5 S5 ho hg hx
  go_wp2
  refine ⟨rfl, ?_⟩
  apply AnyCZ.take (i := 12) rfl (by kernel_rfl) (by kernel_rfl) rfl
  · intro w' hC K hK
    go_wp2
    exact hK
  · rfl
  apply AnyCZ.take (i := 13) rfl (by kernel_rfl) (by kernel_rfl) rfl
  · intro w' hC K hK
    go_wp2
    exact hK
  · rfl
  apply AnyCZ.take (i := 14) rfl (by kernel_rfl) (by kernel_rfl) rfl
  · intro w' hC K hK
    go_wp2
    exact hK
  · rfl
  apply AnyCZ.soloW (i := 15) rfl (by kernel_rfl) e6'
  go_wp2
  refine ⟨rfl, ?_⟩
  refine AnyW.done (by kernel_rfl) ?_
  go_wp2
  go_ret
  exact ⟨rfl, _, _, _, HP5.out, HS5.out⟩
theorem head6_any (w : World) (g : Nat) (s : PS) (W H B : Value) (c : UInt8) (P : Par w g s W H B) (hl : s.wd.length + 1 ≤ 140737488355328) (hst : s.st = 6) (hasc : ∀ b ∈ s.wd, b.toNat < 128) (hh : s.hs.length ≤ 1000000000) : Calls Tryd.prog 21 #[.pointer (some ⟨g, 0, none⟩), .int .u8 (c.toNat : Int)] w (PPost g W H B w (head6 s c).1 (.int .i64 (head6 s c).2)) := by
  unfold head6
  have lo : ∀ n : Nat, c.toNat = n → letterB c = letterB (UInt8.ofNat n) ∧ digitB c = digitB (UInt8.ofNat n) := fun n hn => by rw [← hn, UInt8.ofNat_toNat]; exact ⟨rfl, rfl⟩
  cases h1 : ((c.toNat : Int) == 13)
  · cases h2 : ((c.toNat : Int) == 58)
    · cases h3 : letterB c
      · cases h4 : digitB c
        · cases h5 : ((c.toNat : Int) == 45)
          · exact ih6b3 w g s W H B c P hl hst h1 h2 h3 h4 h5
          · exact ih6b2 w g s W H B c P hl hst h1 h2 h3 h4 h5
        · exact ih6b1 w g s W H B c P hl hst h1 h2 h3 h4
      · exact ih6b0 w g s W H B c P hl hst h1 h2 h3
    · have hc : c.toNat = 58 := by simp at h2; omega
      cases h6 : decide ((0 : Int) < (s.wd.length : Int))
      · have h3 : letterB c = false := by rw [(lo 58 hc).1]; decide
        have h4 : digitB c = false := by rw [(lo 58 hc).2]; decide
        have h5 : ((c.toNat : Int) == 45) = false := by rw [hc]; decide
        rw [h3, h4, h5]
        exact ih6c w g s W H B c P hl hst h1 h2 h6 h3 h4 h5
      · exact ih6h w g s W H B c P hl hst h1 h2 h6 hasc hh
  · have hc : c.toNat = 13 := by simp at h1; omega
    cases h6 : ((s.wd.length : Int) == 0)
    · have h2 : ((c.toNat : Int) == 58) = false := by rw [hc]; decide
      have h3 : letterB c = false := by rw [(lo 13 hc).1]; decide
      have h4 : digitB c = false := by rw [(lo 13 hc).2]; decide
      have h5 : ((c.toNat : Int) == 45) = false := by rw [hc]; decide
      rw [h2, h3, h4, h5]
      exact ih6d w g s W H B c P hl hst h1 h6 h2 h3 h4 h5
    · exact ih6a w g s W H B c P hl hst h1 h6
end Go.Proofs.YtjichadkonlfpaaDoor

namespace Go.Proofs.YtjichadkonlfpaaDoor
open Go.RowKit
set_option maxRecDepth 100000 in
set_option maxHeartbeats 1000000 in
theorem ih7b0 (w : World) (g : Nat) (s : PS) (W H B : Value) (c : UInt8) (P : Par w g s W H B) (hl : s.wd.length + 1 ≤ 140737488355328) (hst : s.st = 7) (h0 : ((c.toNat : Int) != 13) = true) (h1 : decide ((32 : Int) ≤ (c.toNat : Int)) = true) (h2 : decide ((c.toNat : Int) < 127) = true) : Calls Tryd.prog 21 #[.pointer (some ⟨g, 0, none⟩), .int .u8 (c.toNat : Int)] w (PPost g W H B w (takeP s c true).1 (.int .i64 (takeP s c true).2)) := by
  have q0 : ((c.toNat : Int) == 13) = false := by rw [bne, Bool.not_eq_eq_eq_not] at h0; simpa using h0
  have HP := Lib.hid P
  have HL := Lib.hid hl
  have HST := Lib.hid hst
  have e_ := P.at_
  rw [hst] at e_
  obtain ⟨e0, _, _, e3, _, _, e6, _, _, e9, _⟩ := e_
  obtain ⟨n, hn⟩ : ∃ n, n = s.wd.length := ⟨_, rfl⟩
  obtain ⟨A, cW, hW, _, _⟩ := own8_form' (n := n) P.wd hn.symm
  have HN := Lib.hid hn
  clear hn
  subst hW
  clear P hl hst
  go_enter Tryd.func21, Tryd.ntmps21
  go_wp2_with (first
    | (go_at_call 26; go_must (refine (take_any _ g s _ H B c _ HP.out HL.out).mono ?_; rintro e w1 ⟨rfl, W1, H1, B1, P1, S1⟩; have HP1 := Lib.hid P1; have HS1 := Lib.hid S1; clear P1 S1)))
  go_ret
  exact ⟨rfl, W1, H1, B1, HP1.out, HS1.out⟩
set_option maxRecDepth 100000 in
set_option maxHeartbeats 1000000 in
theorem ih7b1 (w : World) (g : Nat) (s : PS) (W H B : Value) (c : UInt8) (P : Par w g s W H B) (hl : s.wd.length + 1 ≤ 140737488355328) (hst : s.st = 7) (h0 : ((c.toNat : Int) != 13) = true) (h1 : decide ((32 : Int) ≤ (c.toNat : Int)) = true) (h2 : decide ((c.toNat : Int) < 127) = false) (h3 : ((c.toNat : Int) == 9) = true) : Calls Tryd.prog 21 #[.pointer (some ⟨g, 0, none⟩), .int .u8 (c.toNat : Int)] w (PPost g W H B w (takeP s c true).1 (.int .i64 (takeP s c true).2)) := by
  have q0 : ((c.toNat : Int) == 13) = false := by rw [bne, Bool.not_eq_eq_eq_not] at h0; simpa using h0
  have q3 : ((c.toNat : Int) != 9) = false := by rw [bne, h3]; rfl
  have HP := Lib.hid P
  have HL := Lib.hid hl
  have HST := Lib.hid hst
  have e_ := P.at_
  rw [hst] at e_
  obtain ⟨e0, _, _, e3, _, _, e6, _, _, e9, _⟩ := e_
  obtain ⟨n, hn⟩ : ∃ n, n = s.wd.length := ⟨_, rfl⟩
  obtain ⟨A, cW, hW, _, _⟩ := own8_form' (n := n) P.wd hn.symm
  have HN := Lib.hid hn
  clear hn
  subst hW
  clear P hl hst
  go_enter Tryd.func21, Tryd.ntmps21
  go_wp2_with (first
    | (go_at_call 26; go_must (refine (take_any _ g s _ H B c _ HP.out HL.out).mono ?_; rintro e w1 ⟨rfl, W1, H1, B1, P1, S1⟩; have HP1 := Lib.hid P1; have HS1 := Lib.hid S1; clear P1 S1)))
  go_ret
  exact ⟨rfl, W1, H1, B1, HP1.out, HS1.out⟩
set_option maxRecDepth 100000 in
set_option maxHeartbeats 1000000 in
theorem ih7b2 (w : World) (g : Nat) (s : PS) (W H B : Value) (c : UInt8) (P : Par w g s W H B) (hl : s.wd.length + 1 ≤ 140737488355328) (hst : s.st = 7) (h0 : ((c.toNat : Int) != 13) = true) (h1 : decide ((32 : Int) ≤ (c.toNat : Int)) = true) (h2 : decide ((c.toNat : Int) < 127) = false) (h3 : ((c.toNat : Int) == 9) = false) : Calls Tryd.prog 21 #[.pointer (some ⟨g, 0, none⟩), .int .u8 (c.toNat : Int)] w (PPost g W H B w (takeP s c false).1 (.int .i64 (takeP s c false).2)) := by
  have q0 : ((c.toNat : Int) == 13) = false := by rw [bne, Bool.not_eq_eq_eq_not] at h0; simpa using h0
  have q3 : ((c.toNat : Int) != 9) = true := by rw [bne, h3]; rfl
  have HP := Lib.hid P
  have HL := Lib.hid hl
  have HST := Lib.hid hst
  have e_ := P.at_
  rw [hst] at e_
  obtain ⟨e0, _, _, e3, _, _, e6, _, _, e9, _⟩ := e_
  obtain ⟨n, hn⟩ : ∃ n, n = s.wd.length := ⟨_, rfl⟩
  obtain ⟨A, cW, hW, _, _⟩ := own8_form' (n := n) P.wd hn.symm
  have HN := Lib.hid hn
  clear hn
  subst hW
  clear P hl hst
  go_enter Tryd.func21, Tryd.ntmps21
  go_wp2_with (first
    | (go_at_call 26; go_must (refine (take_any _ g s _ H B c _ HP.out HL.out).mono ?_; rintro e w1 ⟨rfl, W1, H1, B1, P1, S1⟩; have HP1 := Lib.hid P1; have HS1 := Lib.hid S1; clear P1 S1)))
  go_ret
  exact ⟨rfl, W1, H1, B1, HP1.out, HS1.out⟩
set_option maxRecDepth 100000 in
set_option maxHeartbeats 1000000 in
theorem ih7b3 (w : World) (g : Nat) (s : PS) (W H B : Value) (c : UInt8) (P : Par w g s W H B) (hl : s.wd.length + 1 ≤ 140737488355328) (hst : s.st = 7) (h0 : ((c.toNat : Int) != 13) = true) (h1 : decide ((32 : Int) ≤ (c.toNat : Int)) = false) (h2 : ((c.toNat : Int) == 9) = true) : Calls Tryd.prog 21 #[.pointer (some ⟨g, 0, none⟩), .int .u8 (c.toNat : Int)] w (PPost g W H B w (takeP s c true).1 (.int .i64 (takeP s c true).2)) := by
  have q0 : ((c.toNat : Int) == 13) = false := by rw [bne, Bool.not_eq_eq_eq_not] at h0; simpa using h0
  have q2 : ((c.toNat : Int) != 9) = false := by rw [bne, h2]; rfl
  have HP := Lib.hid P
  have HL := Lib.hid hl
  have HST := Lib.hid hst
  have e_ := P.at_
  rw [hst] at e_
  obtain ⟨e0, _, _, e3, _, _, e6, _, _, e9, _⟩ := e_
  obtain ⟨n, hn⟩ : ∃ n, n = s.wd.length := ⟨_, rfl⟩
  obtain ⟨A, cW, hW, _, _⟩ := own8_form' (n := n) P.wd hn.symm
  have HN := Lib.hid hn
  clear hn
  subst hW
  clear P hl hst
  go_enter Tryd.func21, Tryd.ntmps21
  go_wp2_with (first
    | (go_at_call 26; go_must (refine (take_any _ g s _ H B c _ HP.out HL.out).mono ?_; rintro e w1 ⟨rfl, W1, H1, B1, P1, S1⟩; have HP1 := Lib.hid P1; have HS1 := Lib.hid S1; clear P1 S1)))
  go_ret
  exact ⟨rfl, W1, H1, B1, HP1.out, HS1.out⟩
set_option maxRecDepth 100000 in
set_option maxHeartbeats 1000000 in
theorem ih7b4 (w : World) (g : Nat) (s : PS) (W H B : Value) (c : UInt8) (P : Par w g s W H B) (hl : s.wd.length + 1 ≤ 140737488355328) (hst : s.st = 7) (h0 : ((c.toNat : Int) != 13) = true) (h1 : decide ((32 : Int) ≤ (c.toNat : Int)) = false) (h2 : ((c.toNat : Int) == 9) = false) : Calls Tryd.prog 21 #[.pointer (some ⟨g, 0, none⟩), .int .u8 (c.toNat : Int)] w (PPost g W H B w (takeP s c false).1 (.int .i64 (takeP s c false).2)) := by
  have q0 : ((c.toNat : Int) == 13) = false := by rw [bne, Bool.not_eq_eq_eq_not] at h0; simpa using h0
  have q2 : ((c.toNat : Int) != 9) = true := by rw [bne, h2]; rfl
  have HP := Lib.hid P
  have HL := Lib.hid hl
  have HST := Lib.hid hst
  have e_ := P.at_
  rw [hst] at e_
  obtain ⟨e0, _, _, e3, _, _, e6, _, _, e9, _⟩ := e_
  obtain ⟨n, hn⟩ : ∃ n, n = s.wd.length := ⟨_, rfl⟩
  obtain ⟨A, cW, hW, _, _⟩ := own8_form' (n := n) P.wd hn.symm
  have HN := Lib.hid hn
  clear hn
  subst hW
  clear P hl hst
  go_enter Tryd.func21, Tryd.ntmps21
  go_wp2_with (first
    | (go_at_call 26; go_must (refine (take_any _ g s _ H B c _ HP.out HL.out).mono ?_; rintro e w1 ⟨rfl, W1, H1, B1, P1, S1⟩; have HP1 := Lib.hid P1; have HS1 := Lib.hid S1; clear P1 S1)))
  go_ret
  exact ⟨rfl, W1, H1, B1, HP1.out, HS1.out⟩
set_option maxRecDepth 100000 in
set_option maxHeartbeats 2000000 in
theorem ih7a (w : World) (g : Nat) (s : PS) (W H B : Value) (c : UInt8) (P : Par w g s W H B) (hl : s.wd.length + 1 ≤ 140737488355328) (hst : s.st = 7) (h0 : ((c.toNat : Int) != 13) = false) (init : List (List UInt8 × List UInt8)) (p : List UInt8 × List UInt8) (hhs : s.hs = init ++ [p]) (hh : s.hs.length ≤ 1000000000) :
    Calls Tryd.prog 21 #[.pointer (some ⟨g, 0, none⟩), .int .u8 (c.toNat : Int)] w (PPost g W H B w { s with hs := setLast s.hs (Lib.trimS s.wd [32, 9]), wd := [], st := 5 } (.int .i64 0)) := by
  have q0 : ((c.toNat : Int) == 13) = true := by rw [bne, Bool.not_eq_eq_eq_not] at h0; simpa using h0
  obtain ⟨k, hk⟩ : ∃ k, k = init.length := ⟨_, rfl⟩
  have hlen : s.hs.length = k + 1 := by rw [hhs, hk]; simp
  have hk1 : k + 1 ≤ 1000000000 := by omega
  have HP := Lib.hid P
  have HL := Lib.hid hl
  have e_ := P.at_
  rw [hst] at e_
  obtain ⟨e0, _, _, e3, _, _, e6, _, _, _, _⟩ := e_
  obtain ⟨hl0, h2 | ⟨hb, cap, cur, hH, _⟩⟩ := P.hs
  · have := h2.2; omega
  rw [hlen] at hH
  subst hH
  have HLEN := Lib.hid hlen
  have HHS := Lib.hid hhs
  have HK := Lib.hid hk
  have kI : (0 : Int) ≤ (k : Int) := by omega
  have kJ : (k : Int) < (k : Int) + 1 := by omega
  clear P hl hst hh hl0 hlen hhs hk
  go_enter Tryd.func21, Tryd.ntmps21
  go_wp2
  refine AnyCZ.start [17] (fun w' => w'.cell? ⟨g, 6, none⟩ = some (.slice (some ⟨hb, 0, none⟩) (k + 1) cap)) (by kernel_rfl) rfl ?_
  intro w1 hb1
  have P1 := Lib.hid (HP.out.below hb1)
  have S1 : Hid (PStep g W (.slice (some ⟨hb, 0, none⟩) (k + 1) cap) B w W (.slice (some ⟨hb, 0, none⟩) (k + 1) cap) B w1) := PStep.of_below hb1
  clear hb1 e0 e3 e6
  apply AnyCZ.take (i := 0) rfl (by kernel_rfl) (by kernel_rfl) rfl
  · intro w' hC K hK
    go_wp2
    exact hK
  · rfl
  apply AnyCZ.take (i := 1) rfl (by kernel_rfl) (by kernel_rfl) rfl
  · intro w' hC K hK
    go_wp2
    exact hK
  · rfl
  apply AnyCZ.take (i := 2) rfl (by kernel_rfl) (by kernel_rfl) rfl
  · intro w' hC K hK
    go_wp2
    exact hK
  · rfl
  apply AnyCZ.take (i := 3) rfl (by kernel_rfl) (by kernel_rfl) rfl
  · intro w' hC K hK
    go_wp2
    exact hK
  · rfl
  apply AnyCZ.take (i := 4) rfl (by kernel_rfl) (by kernel_rfl) rfl
  · intro w' hC K hK
    have cc := hC
    go_wp2
    exact hK
  · rfl
  apply AnyCZ.take (i := 5) rfl (by kernel_rfl) (by kernel_rfl) rfl
  · intro w' hC K hK
    go_wp2
    exact hK
  · rfl
  apply AnyCZ.take (i := 6) rfl (by kernel_rfl) (by kernel_rfl) rfl
  · intro w' hC K hK
    go_wp2
    exact hK
  · rfl
  apply AnyCZ.take (i := 7) rfl (by kernel_rfl) (by kernel_rfl) rfl
  · intro w' hC K hK
    go_wp2
    exact hK
  · rfl
  apply AnyCZ.take (i := 8) rfl (by kernel_rfl) (by kernel_rfl) rfl
  · intro w' hC K hK
    go_wp2
    exact hK
  · rfl
  apply AnyCZ.take (i := 9) rfl (by kernel_rfl) (by kernel_rfl) rfl
  · intro w' hC K hK
    have cc := hC
    go_wp2
    exact hK
  · rfl
  apply AnyCZ.take (i := 10) rfl (by kernel_rfl) (by kernel_rfl) rfl
  · intro w' hC K hK
    go_wp2
    exact hK
  · rfl
  apply AnyCZ.take (i := 11) rfl (by kernel_rfl) (by kernel_rfl) rfl
  · intro w' hC K hK
    go_wp2
    exact hK
  · rfl
  apply AnyCZ.take (i := 12) rfl (by kernel_rfl) (by kernel_rfl) rfl
  · intro w' hC K hK
    go_wp2
    exact hK
  · rfl
  apply AnyCZ.solo (i := 13) rfl (by kernel_rfl) P1.out.at_.2.2.2.2.2.2.1
  go_wp2_with (go_at_call 25; go_must (refine (done_st w1 g s _ _ B 5 P1.out).mono ?_; rintro e w2 ⟨rfl, P2, S2⟩; have HP2 := Lib.hid P2; have HS2 := Lib.hid (S1.out.trans S2); clear P2 S2))
  refine ⟨rfl, ?_⟩
  apply AnyCZ.solo (i := 14) rfl (by kernel_rfl) HP2.out.at_.2.2.2.2.2.2.1
  go_wp2_with (go_at_call 30; go_must (refine (trim_any s.wd ⟨#[32, 9]⟩ (by have h_ := HL.out; omega) (by decide) (Go.Proofs.ascii_of_all (by decide)) w2).mono ?_; rintro e w3 ⟨rfl, hb3⟩; have HP3 := Lib.hid (HP2.out.below hb3); have HS3 := Lib.hid (HS2.out.trans (PStep.of_below hb3)); clear hb3))
  refine ⟨rfl, ?_⟩
  apply AnyCZ.take (i := 15) rfl (by kernel_rfl) (by kernel_rfl) rfl
  · intro w' hC K hK
    go_wp2
    exact hK
  · rfl
  apply AnyCZ.take (i := 16) rfl (by kernel_rfl) (by kernel_rfl) rfl
  · intro w' hC K hK
    go_wp2
    exact hK
  · rfl
  have Q := HP3.out.setH (j := k * 2 + 1) (u := .string ⟨(Lib.trimS s.wd [32, 9]).toArray⟩) (l := setLast s.hs (Lib.trimS s.wd [32, 9])) HLEN.out (by rw [HHS.out, setLast_snoc, HK.out]; simp) (by show (hsV s.hs).set _ _ = _; rw [HHS.out, setLast_snoc, HK.out]; exact hsV_last _ _ _)
  have cA := World.ownsRow.cellAt (by have h_ := HP3.out.hs; rw [show (doneP s 5).hs.length = k + 1 from HLEN.out] at h_; exact h_) (k * 2 + 1) (by omega)
  have fA := World.ownsRow.frozenAt (by have h_ := HP3.out.hs; rw [show (doneP s 5).hs.length = k + 1 from HLEN.out] at h_; exact h_) (k * 2 + 1)
  rw [show hsV (doneP s 5).hs = hsV init ++ [.string ⟨p.1.toArray⟩, .string ⟨p.2.toArray⟩] from by show hsV s.hs = _; rw [HHS.out, hsV_snoc], List.getElem?_append_right (by rw [hsV_len, HK.out]; omega), hsV_len, ← HK.out, show k * 2 + 1 - k * 2 = 1 from by omega] at cA
  have cB : w3.cell? ⟨hb, k * 2 + 1, none⟩ = some (.string ⟨p.2.toArray⟩) := cA
  have HQ := Lib.hid Q
  clear Q cA
  apply AnyCZ.soloW (i := 17) rfl (by kernel_rfl) HP3.out.at_.2.2.2.2.2.2.1
  go_wp2
  refine ⟨rfl, ?_⟩
  refine AnyW.done (by kernel_rfl) ?_
  go_wp2
  go_ret
  exact ⟨rfl, _, _, _, HQ.out.1, HS3.out.trans HQ.out.2⟩
theorem head7_any (w : World) (g : Nat) (s : PS) (W H B : Value) (c : UInt8) (P : Par w g s W H B) (hl : s.wd.length + 1 ≤ 140737488355328) (hst : s.st = 7) (hne : s.hs ≠ []) (hh : s.hs.length ≤ 1000000000) : Calls Tryd.prog 21 #[.pointer (some ⟨g, 0, none⟩), .int .u8 (c.toNat : Int)] w (PPost g W H B w (head7 s c).1 (.int .i64 (head7 s c).2)) := by
  unfold head7
  cases h1 : ((c.toNat : Int) != 13)
  · obtain ⟨init, p, hhs⟩ : ∃ init p, s.hs = init ++ [p] := ⟨s.hs.dropLast, s.hs.getLast hne, (List.dropLast_concat_getLast hne).symm⟩
    exact ih7a w g s W H B c P hl hst h1 init p hhs hh
  · cases h2 : decide ((32 : Int) ≤ (c.toNat : Int))
    · cases h4 : ((c.toNat : Int) == 9)
      · exact ih7b4 w g s W H B c P hl hst h1 h2 h4
      · exact ih7b3 w g s W H B c P hl hst h1 h2 h4
    · cases h3 : decide ((c.toNat : Int) < 127)
      · cases h4 : ((c.toNat : Int) == 9)
        · exact ih7b2 w g s W H B c P hl hst h1 h2 h3 h4
        · exact ih7b1 w g s W H B c P hl hst h1 h2 h3 h4
      · exact ih7b0 w g s W H B c P hl hst h1 h2 h3
end Go.Proofs.YtjichadkonlfpaaDoor
