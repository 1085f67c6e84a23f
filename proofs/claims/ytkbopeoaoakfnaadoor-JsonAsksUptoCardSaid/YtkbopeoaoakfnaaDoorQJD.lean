/- The texts JC3 JC4 of this work, merged by wip/merge.py. No conditions. -/
import Derived.Test.YtkbopeoaoakfnaaDoorQJC
namespace Go.Proofs.YtkbopeoaoakfnaaDoor
open Go.RowKit
section
variable {w0 w w' : World} {base g B b : Nat} {s l : List UInt8} {st st' : PS}
theorem Bd.turn (h : Bd w B b l) (ht : Turn g w w') (hg : g < B) : Bd w' B b l := by
  have key : ∀ {p : Value}, Lib.BuilderAtF 66 5 B b p (Lib.byteCells l) w → Lib.BuilderAtF 66 5 B b p (Lib.byteCells l) w' := by
    intro p h
    have hlt := h.lt
    obtain ⟨hB, v, hb, hown, hne⟩ := h
    refine ⟨hB, v, (ht.block b hlt (by omega)).trans hb, hown.kept (row := some g) ⟨ht.os, ht.tape, ht.output, ht.size, fun k hk hn => ht.block k hk (fun e => hn (by rw [e]))⟩ (Or.inr fun e => ?_), hne⟩
    have := (hown.lt g e).1
    omega
  exact h.elim (fun x => .inl (key x)) (fun x => .inr (key x))
theorem Bd.lt (h : Bd w B b l) : b < w.heap.size ∧ B ≤ b := h.elim (fun x => ⟨x.lt, x.1⟩) (fun x => ⟨x.lt, x.1⟩)
/-- A parser without fault stays one while only blocks from B on are written. -/
theorem At.beyond (h : At w0 base g s w st) (hf : st.fault = none) (hb : Below B w w') (hB : w0.heap.size ≤ B) : At w0 base g s w' st := by
  obtain ⟨⟨p, h1, h2, h3, h4⟩, ht, hbs, hl, hg⟩ := h
  rw [hf] at h4
  have h5 : p = .pointer none := h4
  subst h5
  exact ⟨⟨_, (hb.block g (by omega)).trans h1, h2, h3, by rw [hf]; exact rfl⟩, ⟨hb.os.trans ht.os, hb.tape.trans ht.tape, hb.output.trans ht.output, Nat.le_trans ht.size hb.size, fun k hk hn => (hb.block k (by omega)).trans (ht.block k hk hn)⟩, hbs, hl, hg⟩
/-- The parser at g, and beside it the builder at b that holds l. -/
structure TB (w0 : World) (base g : Nat) (s : List UInt8) (B b : Nat) (w : World) (st : PS) (l : List UInt8) : Prop where
  par : At w0 base g s w st
  bd : Bd w B b l
  far : w0.heap.size ≤ B
theorem TB.step (h : TB w0 base g s B b w st l) (h1 : At w base g s w' st') : TB w0 base g s B b w' st' l := ⟨h.par.step h1.ps h1.turn, h.bd.turn h1.turn (Nat.lt_of_lt_of_le h.par.glt h.far), h.far⟩
theorem TB.self (h : TB w0 base g s B b w st l) : At w base g s w st := At.start h.par.ps h.par.basew h.par.len8
theorem TB.cast {l' : List UInt8} (h : TB w0 base g s B b w st l) (e1 : st = st') (e2 : l = l') : TB w0 base g s B b w st' l' := by subst e1 e2; exact h
theorem TB.Bw (h : TB w0 base g s B b w st l) : B ≤ w.heap.size := by have := h.bd.lt; omega
theorem TB.wrote {l' : List UInt8} (h : TB w0 base g s B b w st l) (hf : st.fault = none) (hp : BPost B b l' w w') : TB w0 base g s B b w' st l' := ⟨h.par.beyond hf hp.2.1 h.far, hp.1, h.far⟩
theorem TB.put {k : Nat} (h : TB w0 base g s B b w st l) (hk : k ≤ s.length) : TB w0 base g s B b (w.setCell ⟨g, 1, none⟩ (.int .i64 (k : Int))) (st.to k) l := h.step (h.self.put hk)
theorem fail_tb (h : TB w0 base g s B b w st l) (a e : Int) : Calls Tryd.prog 33 #[.pointer (some ⟨g, 0, none⟩), .int .i64 a, .int .i64 e] w fun x w' => x = .returned (.tuple #[]) ∧ TB w0 base g s B b w' (st.fail a e) l :=
  (fail_at h.self a e).mono fun _ _ ⟨h1, h2⟩ => ⟨h1, h.step h2⟩
theorem next_tb (c : UInt8) (n : Int) (hn : (c.toNat : Int) = n) (h : TB w0 base g s B b w st l) : Calls Tryd.prog 86 #[.pointer (some ⟨g, 0, none⟩), .int .u8 n] w fun x w' => x = .returned (.bool (st.sees s c)) ∧ TB w0 base g s B b w' (st.next s c) l :=
  (next_lit c n hn h.self).mono fun _ _ ⟨h1, h2⟩ => ⟨h1, h.step h2⟩
theorem rest_tb (h : TB w0 base g s B b w st l) : Calls Tryd.prog 57 #[.pointer (some ⟨g, 0, none⟩)] w fun x w' => x = .returned (.string ⟨(s.drop st.at_).toArray⟩) ∧ TB w0 base g s B b w' st l :=
  (rest_at h.self).mono fun _ _ ⟨h1, h2⟩ => ⟨h1, h.step h2⟩
theorem code_tb (h : TB w0 base g s B b w st l) (k : Nat) (K : Int) (hK : K = (k : Int)) (hk : k ≤ 10000) : Calls Tryd.prog 108 #[.pointer (some ⟨g, 0, none⟩), .int .i64 K] w fun x w' => x = .returned (.int .i32 (codeP s k)) ∧ TB w0 base g s B b w' st l := by
  subst hK
  exact (code_at h.self k hk).mono fun _ _ ⟨h1, h2⟩ => ⟨h1, h.step h2⟩
theorem writeByte_tb (h : TB w0 base g s B b w st l) (hf : st.fault = none) (c : UInt8) (n : Int) (hn : n = (c.toNat : Int)) (hl : l.length ≤ 1000000) : Calls Tryd.prog 53 #[.pointer (some ⟨b, 0, none⟩), .int .u8 n] w fun x w' => x = .returned .nilIface ∧ TB w0 base g s B b w' st (l ++ [c]) := by
  subst hn
  exact (writeByte_any c h.bd (by omega) h.Bw).mono fun _ _ ⟨h1, h2⟩ => ⟨h1, h.wrote hf h2⟩
theorem writeRune_tb (h : TB w0 base g s B b w st l) (hf : st.fault = none) (r : Int) (hr0 : 0 ≤ r) (hr1 : r ≤ 1114111) (hl : l.length ≤ 1000000) : Calls Tryd.prog 74 #[.pointer (some ⟨b, 0, none⟩), .int .i32 r] w fun x w' => x = .returned (.tuple #[.int .i64 ((Lib.runeCells r).length : Int), .nilIface]) ∧ TB w0 base g s B b w' st (l ++ Lib.encodeRune r) :=
  (writeRune_any r (by omega) (by omega) h.bd (by omega) h.Bw).mono fun _ _ ⟨h1, h2⟩ => ⟨h1, h.wrote hf h2⟩
theorem writeString_tb (h : TB w0 base g s B b w st l) (hf : st.fault = none) (x : List UInt8) (hl : l.length + x.length ≤ 1000000) : Calls Tryd.prog 50 #[.pointer (some ⟨b, 0, none⟩), .string ⟨x.toArray⟩] w fun y w' => y = .returned (.tuple #[.int .i64 (x.length : Int), .nilIface]) ∧ TB w0 base g s B b w' st (l ++ x) :=
  (writeString_any x h.bd (by omega) h.Bw).mono fun _ _ ⟨h1, h2⟩ => ⟨h1, h.wrote hf h2⟩
theorem string_tb (h : TB w0 base g s B b w st l) (hf : st.fault = none) : Calls Tryd.prog 29 #[.pointer (some ⟨b, 0, none⟩)] w fun y w' => y = .returned (.string ⟨l.toArray⟩) ∧ TB w0 base g s B b w' st l :=
  (bdString_any h.bd h.Bw).mono fun _ _ ⟨h1, h2⟩ => ⟨h1, h.wrote hf h2⟩
end
theorem hexP_bd : ∀ (l : List UInt8) (n : Int) (k : Nat), 0 ≤ n → n < 16 ^ k → -1 ≤ hexP l n ∧ hexP l n < 16 ^ (k + l.length)
  | [], n, k, h0, h1 => by unfold hexP; exact ⟨by omega, by simpa using h1⟩
  | c :: l, n, k, h0, h1 => by
    unfold hexP
    split
    · refine ⟨by omega, ?_⟩
      have : (0 : Int) < 16 ^ (k + (c :: l).length) := Int.pow_pos (by decide)
      omega
    · rename_i hc
      have hz : hexZ c.toNat < 16 := by
        unfold hexZ
        split
        · omega
        · split
          · omega
          · split <;> omega
      have h2 := hexP_bd l (n * 16 + hexZ c.toNat) (k + 1) (by omega) (by rw [Int.pow_succ]; omega)
      rw [show k + (c :: l).length = k + 1 + l.length by simp; omega]
      exact h2
theorem codeP_bd (s : List UInt8) (k : Nat) : -1 ≤ codeP s k ∧ codeP s k ≤ 65535 := by
  unfold codeP
  split
  · omega
  · have h := hexP_bd ((s.drop (k + 2)).take 4) 0 0 (by omega) (by decide)
    rename_i hn
    have hq4 : ((s.drop (k + 2)).take 4).length = 4 := by
      rw [List.length_take, List.length_drop]
      have : ¬ s.length < k + 6 := fun h => hn (.inl h)
      omega
    rw [hq4] at h
    have : (16 : Int) ^ (0 + 4) = 65536 := by decide
    omega
theorem codeP_len {s : List UInt8} {k : Nat} (h : 0 ≤ codeP s k) : k + 6 ≤ s.length := by
  unfold codeP at h
  split at h
  · omega
  · rename_i hn
    have : ¬ s.length < k + 6 := fun h => hn (.inl h)
    omega
theorem single_idx {c d : UInt8} (h : single c = some d) : ∃ i : Nat, i < 8 ∧ Lib.indexByte [34, 92, 47, 98, 102, 110, 114, 116] c = (i : Int) ∧ [(34 : UInt8), 92, 47, 8, 12, 10, 13, 9][i]? = some d := by
  unfold single at h
  split at h
  · rename_i e; subst e; cases h; exact ⟨0, by decide, by decide, rfl⟩
  split at h
  · rename_i e; subst e; cases h; exact ⟨1, by decide, by decide, rfl⟩
  split at h
  · rename_i e; subst e; cases h; exact ⟨2, by decide, by decide, rfl⟩
  split at h
  · rename_i e; subst e; cases h; exact ⟨3, by decide, by decide, rfl⟩
  split at h
  · rename_i e; subst e; cases h; exact ⟨4, by decide, by decide, rfl⟩
  split at h
  · rename_i e; subst e; cases h; exact ⟨5, by decide, by decide, rfl⟩
  split at h
  · rename_i e; subst e; cases h; exact ⟨6, by decide, by decide, rfl⟩
  split at h
  · rename_i e; subst e; cases h; exact ⟨7, by decide, by decide, rfl⟩
  cases h
theorem single_none {c : UInt8} (h : single c = none) : Lib.indexByte [34, 92, 47, 98, 102, 110, 114, 116] c = -1 := by
  unfold single at h
  repeat' split at h
  all_goals first
    | (cases h; done)
    | skip
  rename_i h1 h2 h3 h4 h5 h6 h7 h8
  have hb : ∀ x : UInt8, ¬ c = x → (x == c) = false := fun x hx => by rw [beq_eq_false_iff_ne]; exact fun e => hx e.symm
  simp [Lib.indexByte, hb _ h1, hb _ h2, hb _ h3, hb _ h4, hb _ h5, hb _ h6, hb _ h7, hb _ h8]
end Go.Proofs.YtkbopeoaoakfnaaDoor

namespace Go.Proofs.YtkbopeoaoakfnaaDoor
open Go.RowKit
section
variable {w0 w w' : World} {base g B b : Nat} {s l : List UInt8} {st st' : PS}
/-- What escape leaves. -/
def EscPost (w0 : World) (base g : Nat) (s : List UInt8) (B b : Nat) (st : PS) (l : List UInt8) (e : Ending) (w' : World) : Prop :=
  e = .returned (.tuple #[]) ∧ match escP s st.at_ with
    | some (x, k') => TB w0 base g s B b w' (st.to k') (l ++ x) ∧ k' ≤ s.length
    | none => TB w0 base g s B b w' (st.fail st.at_ 2) l
def EscU (w0 : World) (base g : Nat) (s : List UInt8) (B b : Nat) (st : PS) (l : List UInt8) (e : Ending) (w' : World) : Prop :=
  e = .returned (.tuple #[]) ∧ match escU s st.at_ with
    | some (x, k') => TB w0 base g s B b w' (st.to k') (l ++ x) ∧ k' ≤ s.length
    | none => TB w0 base g s B b w' (st.fail st.at_ 2) l
theorem TB.cells (h : TB w0 base g s B b w st l) : w.cell? ⟨g, 0, none⟩ = some (.string ⟨s.toArray⟩) ∧ w.cell? ⟨g, 1, none⟩ = some (.int .i64 (st.at_ : Int)) ∧ w.cell? ⟨g, 2, none⟩ = some (.int .i64 st.depth) ∧ (∀ i, w.frozen? ⟨g, i, none⟩ = false) := h.par.cells
set_option maxRecDepth 100000 in
set_option maxHeartbeats 800000 in
theorem escape_one {c d : UInt8} (h : TB w0 base g s B b w st l) (hf : st.fault = none) (hl : l.length ≤ 1000000) (hc : s[st.at_ + 1]? = some c) (hs : single c = some d) : Calls Tryd.prog 85 #[.pointer (some ⟨g, 0, none⟩), .pointer (some ⟨b, 0, none⟩)] w (EscPost w0 base g s B b st l) := by
  obtain ⟨c0, c1, c2, fz⟩ := h.cells
  obtain ⟨a0, a1⟩ := h.par.atI
  have hl8 := h.par.len8
  obtain ⟨i, hi8, hidx, hti⟩ := single_idx hs
  have hlt : st.at_ + 1 < s.length := by
    rcases Nat.lt_or_ge (st.at_ + 1) s.length with h' | h'
    · exact h'
    · rw [List.getElem?_eq_none h'] at hc; cases hc
  have hcc : s[st.at_ + 1] = c := by rw [List.getElem?_eq_getElem hlt] at hc; exact Option.some.inj hc
  obtain ⟨sb, hsb⟩ : ∃ sb : ByteArray, sb = ⟨s.toArray⟩ := ⟨_, rfl⟩
  have hsz : sb.size = s.length := by rw [hsb]; simp [ByteArray.size]
  rw [← hsb] at c0
  have hlt2 : st.at_ + 1 < sb.size := by omega
  have hget : (sb[st.at_ + 1]'hlt2) = c := by subst hsb; exact hcc
  have HE : Hid (escP s st.at_ = some ([d], st.at_ + 2)) := by show _ = _; unfold escP; rw [hc]; show (match single c with | some b => some ([b], st.at_ + 2) | none => escU s st.at_) = _; rw [hs]
  have HL := Lib.hid hlt
  have HI := Lib.hid hidx
  have hd1 : decide ((st.at_ : Int) + 1 < (sb.size : Int)) = true := by simp; omega
  have hI1 : (st.at_ : Int) + 1 < (sb.size : Int) := by omega
  have hge : decide ((i : Int) ≥ 0) = true := by simp
  have hi0 : (0 : Int) ≤ (i : Int) := by omega
  have hi9 : (i : Int) < 8 := by omega
  have HT := Lib.hid hti
  clear hsb hsz hc hs hcc hlt hidx hti
  go_enter Tryd.func85, Tryd.ntmps85
  go_wp2_with (first
    | (go_at_call 107; go_must (have tl := Tryd.strings_IndexByte ⟨#[34, 92, 47, 98, 102, 110, 114, 116]⟩ (c.toNat : Int) w; rw [show Lib.indexByte (⟨#[34, 92, 47, 98, 102, 110, 114, 116]⟩ : ByteArray).data.toList ((c.toNat : Int).toNat.toUInt8) = (i : Int) from by rw [← HI.out]; simp] at tl; refine tl.mono ?_; clear tl; rintro e w1 ⟨rfl, hw1⟩; have hw1 := hw1.symm; subst hw1))
    | (go_at_call 53; go_must (refine (writeByte_tb h hf _ _ rfl hl).mono ?_; rintro e w2 ⟨rfl, h2⟩; obtain ⟨d0_, d1_, d2_, fz_⟩ := h2.cells)))
  have h3 := h2.put (k := st.at_ + 2) HL.out
  rw [show ((st.at_ + 2 : Nat) : Int) = (st.at_ : Int) + 2 by omega] at h3
  first
    | go_end0
    | (refine bodyPost_ret (results_none rfl _ _ _) rfl ?_)
  refine ⟨rfl, ?_⟩
  rw [HE.out]
  refine ⟨h3.cast rfl ?_, HL.out⟩
  have h4 := HT.out
  rw [List.getElem?_eq_getElem (by simpa using hi8)] at h4
  have h5 := Option.some.inj h4
  exact congrArg (fun x => l ++ [x]) h5
set_option maxRecDepth 100000 in
set_option maxHeartbeats 800000 in
theorem escape_other (h : TB w0 base g s B b w st l) (hf : st.fault = none) (hl : l.length ≤ 1000000) (hn : (s[st.at_ + 1]?).bind single = none) : Calls Tryd.prog 85 #[.pointer (some ⟨g, 0, none⟩), .pointer (some ⟨b, 0, none⟩)] w (EscPost w0 base g s B b st l) := by
  obtain ⟨c0, c1, c2, fz⟩ := h.cells
  obtain ⟨a0, a1⟩ := h.par.atI
  have hl8 := h.par.len8
  have HE : Hid (escP s st.at_ = escU s st.at_) := by show _ = _; unfold escP; rw [hn]
  obtain ⟨sb, hsb⟩ : ∃ sb : ByteArray, sb = ⟨s.toArray⟩ := ⟨_, rfl⟩
  have hsz : sb.size = s.length := by rw [hsb]; simp [ByteArray.size]
  rw [← hsb] at c0
  have HSB := Lib.hid hsb
  have HSZ := Lib.hid hsz
  clear hsb hsz
  have HL8 := Lib.hid hl8
  have HAT := Lib.hid h.par.ps.len
  go_enter Tryd.func85, Tryd.ntmps85
  go_upto_if 19 with fail
  go_cut [] from 5 (fun w' => w' = w)
  case first =>
    by_cases hlt : st.at_ + 1 < s.length
    · have hsz := HSZ.out
      have hlt2 : st.at_ + 1 < sb.size := by omega
      have hI1 : (st.at_ : Int) + 1 < (sb.size : Int) := by omega
      have hcc : (sb[st.at_ + 1]'hlt2) = s[st.at_ + 1] := by have hsb := HSB.out; subst hsb; rfl
      rw [List.getElem?_eq_getElem hlt] at hn
      have hn2 : single (s[st.at_ + 1]) = none := hn
      have HX := Lib.hid (single_none hn2)
      rw [← hcc] at HX
      have hd1 : decide ((st.at_ : Int) + 1 < (sb.size : Int)) = true := by simp; omega
      have tl := Tryd.strings_IndexByte ⟨#[34, 92, 47, 98, 102, 110, 114, 116]⟩ ((sb[st.at_ + 1]'hlt2).toNat : Int) w
      rw [show Lib.indexByte (⟨#[34, 92, 47, 98, 102, 110, 114, 116]⟩ : ByteArray).data.toList (((sb[st.at_ + 1]'hlt2).toNat : Int).toNat.toUInt8) = -1 from by rw [← HX.out]; simp] at tl
      have HTL := Lib.hid tl
      clear hn hn2 hcc hsz hlt hl8 tl
      go_wp2_with (first
        | (go_at_call 107; go_must (refine HTL.out.mono ?_; rintro e w1 ⟨rfl, hw1⟩; have hw1 := hw1.symm; subst hw1)))
      go_meet
      case rel => rfl
    · have hsz := HSZ.out
      have hI1 : (sb.size : Int) ≤ (st.at_ : Int) + 1 := by omega
      have hd1 : decide ((st.at_ : Int) + 1 < (sb.size : Int)) = false := by simp; omega
      clear hn hsz hl8
      go_wp2
      go_meet
      case rel => rfl
  case rest =>
    subst hcut
    clear c0 HSB HSZ hn hl8
    obtain ⟨C, hC⟩ : ∃ C, C = codeP s st.at_ := ⟨_, rfl⟩
    obtain ⟨D, hD⟩ : ∃ D, D = codeP s (st.at_ + 6) := ⟨_, rfl⟩
    have bC := codeP_bd s st.at_
    have bD := codeP_bd s (st.at_ + 6)
    have lC := codeP_len (s := s) (k := st.at_)
    have lD := codeP_len (s := s) (k := st.at_ + 6)
    rw [← hC] at bC lC
    rw [← hD] at bD lD
    obtain ⟨bC0, bC1⟩ := bC
    obtain ⟨bD0, bD1⟩ := bD
    have HC := Lib.hid hC
    have HD := Lib.hid hD
    have LC := Lib.hid lC
    have LD := Lib.hid lD
    have HU : Hid (escU s st.at_ = if 55296 ≤ C ∧ C < 56320 then (if 56320 ≤ D ∧ D < 57344 then some (Lib.encodeRune (65536 + (C - 55296) * 1024 + D - 56320), st.at_ + 12) else none) else if C < 0 ∨ (56320 ≤ C ∧ C < 57344) then none else some (Lib.encodeRune C, st.at_ + 6)) := by
      show _ = _
      rw [HC.out, HD.out]
      rfl
    clear hC hD lC lD
    by_cases h1 : 55296 ≤ C ∧ C < 56320
    · obtain ⟨h1a, h1b⟩ := h1
      by_cases h2 : 56320 ≤ D ∧ D < 57344
      · obtain ⟨h2a, h2b⟩ := h2
        have hk12 : st.at_ + 12 ≤ s.length := by have := LD.out (by omega); omega
        have HK := Lib.hid hk12
        go_wp2_with (first
          | (go_at_call 108; have hx_ := t1; go_must (refine (code_tb (by assumption) (st.at_ + 6) _ (by omega) (by omega)).mono ?_; rw [← HD.out]; rintro e w2 ⟨rfl, t2⟩; obtain ⟨d0_, d1_, d2_, fz_⟩ := t2.cells; have t3 := t2.put (k := st.at_ + 6) (by have := HK.out; omega); have e3 : ((st.at_ + 6 : Nat) : Int) = (st.at_ : Int) + 6 := (by omega); rw [e3] at t3; obtain ⟨f0_, f1_, f2_, gz_⟩ := t3.cells; rw [show (st.to (st.at_ + 6)).at_ = st.at_ + 6 from rfl, e3] at f1_; have t4 := t3.put (k := st.at_ + 12) HK.out; have e4 : ((st.at_ + 12 : Nat) : Int) = (st.at_ : Int) + 6 + 6 := (by omega); rw [e4] at t4; clear e3 e4))
          | (go_at_call 108; go_must (refine (code_tb (by assumption) st.at_ _ rfl (by omega)).mono ?_; rw [← HC.out]; rintro e w1 ⟨rfl, t1⟩; obtain ⟨d0_, d1_, d2_, fz_⟩ := t1.cells))
          | (go_at_call_of 109 (Value.int IntKind.i32 55296); go_must (refine (half_any _ 55296 _ (Or.inl rfl)).mono ?_; rintro e w_ ⟨rfl, hw_⟩; have hw_ := hw_.symm; subst hw_))
          | (go_at_call_of 109 (Value.int IntKind.i32 56320); go_must (refine (half_any _ 56320 _ (Or.inr rfl)).mono ?_; rintro e w_ ⟨rfl, hw_⟩; have hw_ := hw_.symm; subst hw_))
          | (go_at_call 33; go_must (refine (fail_tb (by assumption) _ _).mono ?_; rintro e w3 ⟨rfl, t9⟩))
          | (go_at_call 74; go_must (refine (writeRune_tb (by assumption) (by exact hf) _ (by omega) (by omega) hl).mono ?_; rintro e w3 ⟨rfl, t9⟩)))
        first
          | go_end0
          | (refine bodyPost_ret (results_none rfl _ _ _) rfl ?_)
        refine ⟨rfl, ?_⟩
        rw [HE.out, HU.out, if_pos ⟨h1a, h1b⟩, if_pos ⟨h2a, h2b⟩]
        exact ⟨t9, HK.out⟩
      · have h2' : ¬ (56320 ≤ D ∧ D < 56320 + 1024) := by omega
        go_wp2_with (first
          | (go_at_call 108; have hx_ := t1; go_must (refine (code_tb (by assumption) (st.at_ + 6) _ (by omega) (by omega)).mono ?_; rw [← HD.out]; rintro e w2 ⟨rfl, t2⟩; obtain ⟨d0_, d1_, d2_, fz_⟩ := t2.cells))
          | (go_at_call 108; go_must (refine (code_tb (by assumption) st.at_ _ rfl (by omega)).mono ?_; rw [← HC.out]; rintro e w1 ⟨rfl, t1⟩; obtain ⟨d0_, d1_, d2_, fz_⟩ := t1.cells))
          | (go_at_call_of 109 (Value.int IntKind.i32 55296); go_must (refine (half_any _ 55296 _ (Or.inl rfl)).mono ?_; rintro e w_ ⟨rfl, hw_⟩; have hw_ := hw_.symm; subst hw_))
          | (go_at_call_of 109 (Value.int IntKind.i32 56320); go_must (refine (half_any _ 56320 _ (Or.inr rfl)).mono ?_; rintro e w_ ⟨rfl, hw_⟩; have hw_ := hw_.symm; subst hw_))
          | (go_at_call 33; go_must (refine (fail_tb (by assumption) _ _).mono ?_; rintro e w3 ⟨rfl, t9⟩))
          | (go_at_call 74; go_must (refine (writeRune_tb (by assumption) (by exact hf) _ (by omega) (by omega) hl).mono ?_; rintro e w3 ⟨rfl, t9⟩)))
        first
          | go_end0
          | (refine bodyPost_ret (results_none rfl _ _ _) rfl ?_)
        refine ⟨rfl, ?_⟩
        rw [HE.out, HU.out, if_pos ⟨h1a, h1b⟩, if_neg h2]
        exact t9
    · have h1' : ¬ (55296 ≤ C ∧ C < 55296 + 1024) := by omega
      by_cases h2 : C < 0 ∨ (56320 ≤ C ∧ C < 57344)
      · have HH2 := Lib.hid h2
        go_wp2_with (first
          | (go_at_call 108; have hx_ := t1; go_must (refine (code_tb (by assumption) (st.at_ + 6) _ (by omega) (by omega)).mono ?_; rw [← HD.out]; rintro e w2 ⟨rfl, t2⟩; obtain ⟨d0_, d1_, d2_, fz_⟩ := t2.cells))
          | (go_at_call 108; go_must (refine (code_tb (by assumption) st.at_ _ rfl (by omega)).mono ?_; rw [← HC.out]; rintro e w1 ⟨rfl, t1⟩; obtain ⟨d0_, d1_, d2_, fz_⟩ := t1.cells))
          | (go_at_call_of 109 (Value.int IntKind.i32 55296); go_must (refine (half_any _ 55296 _ (Or.inl rfl)).mono ?_; rintro e w_ ⟨rfl, hw_⟩; have hw_ := hw_.symm; subst hw_))
          | (go_at_call_of 109 (Value.int IntKind.i32 56320); go_must (refine (half_any _ 56320 _ (Or.inr rfl)).mono ?_; rintro e w_ ⟨rfl, hw_⟩; have hw_ := hw_.symm; subst hw_))
          | (go_at_call 33; go_must (refine (fail_tb (by assumption) _ _).mono ?_; rintro e w3 ⟨rfl, t9⟩))
          | (go_at_call 74; go_must (refine (writeRune_tb (by assumption) (by exact hf) _ (by omega) (by omega) hl).mono ?_; rintro e w3 ⟨rfl, t9⟩)))
        all_goals first
          | (first
              | go_end0
              | (refine bodyPost_ret (results_none rfl _ _ _) rfl ?_)
             refine ⟨rfl, ?_⟩
             rw [HE.out, HU.out, if_neg h1, if_pos HH2.out]
             exact t9)
          | (exfalso; omega)
      · have hk6 : st.at_ + 6 ≤ s.length := LC.out (by omega)
        have HK := Lib.hid hk6
        have h3 : 0 ≤ C := by omega
        have h2' : ¬ (56320 ≤ C ∧ C < 56320 + 1024) := by omega
        have hcneg : decide (C < 0) = false := by simp; omega
        go_wp2_with (first
          | (go_at_call 108; have hx_ := t1; go_must (refine (code_tb (by assumption) (st.at_ + 6) _ (by omega) (by omega)).mono ?_; rw [← HD.out]; rintro e w2 ⟨rfl, t2⟩; obtain ⟨d0_, d1_, d2_, fz_⟩ := t2.cells))
          | (go_at_call 108; go_must (refine (code_tb (by assumption) st.at_ _ rfl (by omega)).mono ?_; rw [← HC.out]; rintro e w1 ⟨rfl, t1⟩; obtain ⟨d0_, d1_, d2_, fz_⟩ := t1.cells; have t3 := t1.put (k := st.at_ + 6) HK.out; have e3 : ((st.at_ + 6 : Nat) : Int) = (st.at_ : Int) + 6 := (by omega); rw [e3] at t3; clear e3))
          | (go_at_call_of 109 (Value.int IntKind.i32 55296); go_must (refine (half_any _ 55296 _ (Or.inl rfl)).mono ?_; rintro e w_ ⟨rfl, hw_⟩; have hw_ := hw_.symm; subst hw_))
          | (go_at_call_of 109 (Value.int IntKind.i32 56320); go_must (refine (half_any _ 56320 _ (Or.inr rfl)).mono ?_; rintro e w_ ⟨rfl, hw_⟩; have hw_ := hw_.symm; subst hw_))
          | (go_at_call 33; go_must (refine (fail_tb (by assumption) _ _).mono ?_; rintro e w3 ⟨rfl, t9⟩))
          | (go_at_call 74; go_must (refine (writeRune_tb (by assumption) (by exact hf) _ (by omega) (by omega) hl).mono ?_; rintro e w3 ⟨rfl, t9⟩)))
        all_goals first
          | (first
              | go_end0
              | (refine bodyPost_ret (results_none rfl _ _ _) rfl ?_)
             refine ⟨rfl, ?_⟩
             rw [HE.out, HU.out, if_neg h1, if_neg h2]
             exact ⟨t9, HK.out⟩)
          | (exfalso; omega)
theorem escape_any (h : TB w0 base g s B b w st l) (hf : st.fault = none) (hl : l.length ≤ 1000000) : Calls Tryd.prog 85 #[.pointer (some ⟨g, 0, none⟩), .pointer (some ⟨b, 0, none⟩)] w (EscPost w0 base g s B b st l) := by
  cases hc : s[st.at_ + 1]? with
  | none => exact escape_other h hf hl (by rw [hc]; rfl)
  | some c =>
    cases hs : single c with
    | none => exact escape_other h hf hl (by rw [hc]; exact hs)
    | some d => exact escape_one h hf hl hc hs
end
end Go.Proofs.YtkbopeoaoakfnaaDoor
