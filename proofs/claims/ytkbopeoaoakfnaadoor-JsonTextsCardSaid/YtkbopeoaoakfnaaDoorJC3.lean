/- json: the parser beside a builder; escape. No conditions. -/
import Derived.Test.YtkbopeoaoakfnaaDoorJC2
namespace Go.Proofs.YtkbopeoaoakfnaaDoor
open Go.RowKit
section
variable {w0 w w' : World} {base g B b : Nat} {s l : List UInt8} {st st' : PS}
theorem Bd.turn (h : Bd w B b l) (ht : Turn g w w') (hg : g < B) : Bd w' B b l := by
  have key : ∀ {p : Value}, Lib.BuilderAtF 66 5 B b p (Lib.byteCells l) w → Lib.BuilderAtF 66 5 B b p (Lib.byteCells l) w' := by
    intro p h
    have hlt := h.lt
    obtain ⟨hB, v, hb, hown, hne⟩ := h
    refine ⟨hB, v, (ht.block b hlt (by omega)).trans hb, hown.kept (row := some g) ⟨ht.os, ht.tape, ht.output, ht.size, fun k hk hn => ht.block k hk (fun e => hn (by rw [e]))⟩ (Or.inr fun e => ?_), hne⟩
    have := (hown.lt g e).1
    omega
  exact h.elim (fun x => .inl (key x)) (fun x => .inr (key x))
theorem Bd.lt (h : Bd w B b l) : b < w.heap.size ∧ B ≤ b := h.elim (fun x => ⟨x.lt, x.1⟩) (fun x => ⟨x.lt, x.1⟩)
/-- A parser without fault stays one while only blocks from B on are written. -/
theorem At.beyond (h : At w0 base g s w st) (hf : st.fault = none) (hb : Below B w w') (hB : w0.heap.size ≤ B) : At w0 base g s w' st := by
  obtain ⟨⟨p, h1, h2, h3, h4⟩, ht, hbs, hl, hg⟩ := h
  rw [hf] at h4
  have h5 : p = .pointer none := h4
  subst h5
  exact ⟨⟨_, (hb.block g (by omega)).trans h1, h2, h3, by rw [hf]; exact rfl⟩, ⟨hb.os.trans ht.os, hb.tape.trans ht.tape, hb.output.trans ht.output, Nat.le_trans ht.size hb.size, fun k hk hn => (hb.block k (by omega)).trans (ht.block k hk hn)⟩, hbs, hl, hg⟩
/-- The parser at g, and beside it the builder at b that holds l. -/
structure TB (w0 : World) (base g : Nat) (s : List UInt8) (B b : Nat) (w : World) (st : PS) (l : List UInt8) : Prop where
  par : At w0 base g s w st
  bd : Bd w B b l
  far : w0.heap.size ≤ B
theorem TB.step (h : TB w0 base g s B b w st l) (h1 : At w base g s w' st') : TB w0 base g s B b w' st' l := ⟨h.par.step h1.ps h1.turn, h.bd.turn h1.turn (Nat.lt_of_lt_of_le h.par.glt h.far), h.far⟩
theorem TB.self (h : TB w0 base g s B b w st l) : At w base g s w st := At.start h.par.ps h.par.basew h.par.len8
theorem TB.cast {l' : List UInt8} (h : TB w0 base g s B b w st l) (e1 : st = st') (e2 : l = l') : TB w0 base g s B b w st' l' := by subst e1 e2; exact h
theorem TB.Bw (h : TB w0 base g s B b w st l) : B ≤ w.heap.size := by have := h.bd.lt; omega
theorem TB.wrote {l' : List UInt8} (h : TB w0 base g s B b w st l) (hf : st.fault = none) (hp : BPost B b l' w w') : TB w0 base g s B b w' st l' := ⟨h.par.beyond hf hp.2.1 h.far, hp.1, h.far⟩
theorem TB.put {k : Nat} (h : TB w0 base g s B b w st l) (hk : k ≤ s.length) : TB w0 base g s B b (w.setCell ⟨g, 1, none⟩ (.int .i64 (k : Int))) (st.to k) l := h.step (h.self.put hk)
theorem fail_tb (h : TB w0 base g s B b w st l) (a e : Int) : Calls Tryd.prog 33 #[.pointer (some ⟨g, 0, none⟩), .int .i64 a, .int .i64 e] w fun x w' => x = .returned (.tuple #[]) ∧ TB w0 base g s B b w' (st.fail a e) l :=
  (fail_at h.self a e).mono fun _ _ ⟨h1, h2⟩ => ⟨h1, h.step h2⟩
theorem next_tb (c : UInt8) (n : Int) (hn : (c.toNat : Int) = n) (h : TB w0 base g s B b w st l) : Calls Tryd.prog 86 #[.pointer (some ⟨g, 0, none⟩), .int .u8 n] w fun x w' => x = .returned (.bool (st.sees s c)) ∧ TB w0 base g s B b w' (st.next s c) l :=
  (next_lit c n hn h.self).mono fun _ _ ⟨h1, h2⟩ => ⟨h1, h.step h2⟩
theorem rest_tb (h : TB w0 base g s B b w st l) : Calls Tryd.prog 57 #[.pointer (some ⟨g, 0, none⟩)] w fun x w' => x = .returned (.string ⟨(s.drop st.at_).toArray⟩) ∧ TB w0 base g s B b w' st l :=
  (rest_at h.self).mono fun _ _ ⟨h1, h2⟩ => ⟨h1, h.step h2⟩
theorem code_tb (h : TB w0 base g s B b w st l) (k : Nat) (K : Int) (hK : K = (k : Int)) (hk : k ≤ 10000) : Calls Tryd.prog 108 #[.pointer (some ⟨g, 0, none⟩), .int .i64 K] w fun x w' => x = .returned (.int .i32 (codeP s k)) ∧ TB w0 base g s B b w' st l := by
  subst hK
  exact (code_at h.self k hk).mono fun _ _ ⟨h1, h2⟩ => ⟨h1, h.step h2⟩
theorem writeByte_tb (h : TB w0 base g s B b w st l) (hf : st.fault = none) (c : UInt8) (n : Int) (hn : n = (c.toNat : Int)) (hl : l.length ≤ 1000000) : Calls Tryd.prog 53 #[.pointer (some ⟨b, 0, none⟩), .int .u8 n] w fun x w' => x = .returned .nilIface ∧ TB w0 base g s B b w' st (l ++ [c]) := by
  subst hn
  exact (writeByte_any c h.bd (by omega) h.Bw).mono fun _ _ ⟨h1, h2⟩ => ⟨h1, h.wrote hf h2⟩
theorem writeRune_tb (h : TB w0 base g s B b w st l) (hf : st.fault = none) (r : Int) (hr0 : 0 ≤ r) (hr1 : r ≤ 1114111) (hl : l.length ≤ 1000000) : Calls Tryd.prog 74 #[.pointer (some ⟨b, 0, none⟩), .int .i32 r] w fun x w' => x = .returned (.tuple #[.int .i64 ((Lib.runeCells r).length : Int), .nilIface]) ∧ TB w0 base g s B b w' st (l ++ Lib.encodeRune r) :=
  (writeRune_any r (by omega) (by omega) h.bd (by omega) h.Bw).mono fun _ _ ⟨h1, h2⟩ => ⟨h1, h.wrote hf h2⟩
theorem writeString_tb (h : TB w0 base g s B b w st l) (hf : st.fault = none) (x : List UInt8) (hl : l.length + x.length ≤ 1000000) : Calls Tryd.prog 50 #[.pointer (some ⟨b, 0, none⟩), .string ⟨x.toArray⟩] w fun y w' => y = .returned (.tuple #[.int .i64 (x.length : Int), .nilIface]) ∧ TB w0 base g s B b w' st (l ++ x) :=
  (writeString_any x h.bd (by omega) h.Bw).mono fun _ _ ⟨h1, h2⟩ => ⟨h1, h.wrote hf h2⟩
theorem string_tb (h : TB w0 base g s B b w st l) (hf : st.fault = none) : Calls Tryd.prog 29 #[.pointer (some ⟨b, 0, none⟩)] w fun y w' => y = .returned (.string ⟨l.toArray⟩) ∧ TB w0 base g s B b w' st l :=
  (bdString_any h.bd h.Bw).mono fun _ _ ⟨h1, h2⟩ => ⟨h1, h.wrote hf h2⟩
end
theorem hexP_bd : ∀ (l : List UInt8) (n : Int) (k : Nat), 0 ≤ n → n < 16 ^ k → -1 ≤ hexP l n ∧ hexP l n < 16 ^ (k + l.length)
  | [], n, k, h0, h1 => by unfold hexP; exact ⟨by omega, by simpa using h1⟩
  | c :: l, n, k, h0, h1 => by
    unfold hexP
    split
    · refine ⟨by omega, ?_⟩
      have : (0 : Int) < 16 ^ (k + (c :: l).length) := Int.pow_pos (by decide)
      omega
    · rename_i hc
      have hz : hexZ c.toNat < 16 := by
        unfold hexZ
        split
        · omega
        · split
          · omega
          · split <;> omega
      have h2 := hexP_bd l (n * 16 + hexZ c.toNat) (k + 1) (by omega) (by rw [Int.pow_succ]; omega)
      rw [show k + (c :: l).length = k + 1 + l.length by simp; omega]
      exact h2
theorem codeP_bd (s : List UInt8) (k : Nat) : -1 ≤ codeP s k ∧ codeP s k ≤ 65535 := by
  unfold codeP
  split
  · omega
  · have h := hexP_bd ((s.drop (k + 2)).take 4) 0 0 (by omega) (by decide)
    rename_i hn
    have hq4 : ((s.drop (k + 2)).take 4).length = 4 := by
      rw [List.length_take, List.length_drop]
      have : ¬ s.length < k + 6 := fun h => hn (.inl h)
      omega
    rw [hq4] at h
    have : (16 : Int) ^ (0 + 4) = 65536 := by decide
    omega
theorem codeP_len {s : List UInt8} {k : Nat} (h : 0 ≤ codeP s k) : k + 6 ≤ s.length := by
  unfold codeP at h
  split at h
  · omega
  · rename_i hn
    have : ¬ s.length < k + 6 := fun h => hn (.inl h)
    omega
theorem single_idx {c d : UInt8} (h : single c = some d) : ∃ i : Nat, i < 8 ∧ Lib.indexByte [34, 92, 47, 98, 102, 110, 114, 116] c = (i : Int) ∧ [(34 : UInt8), 92, 47, 8, 12, 10, 13, 9][i]? = some d := by
  unfold single at h
  split at h
  · rename_i e; subst e; cases h; exact ⟨0, by decide, by decide, rfl⟩
  split at h
  · rename_i e; subst e; cases h; exact ⟨1, by decide, by decide, rfl⟩
  split at h
  · rename_i e; subst e; cases h; exact ⟨2, by decide, by decide, rfl⟩
  split at h
  · rename_i e; subst e; cases h; exact ⟨3, by decide, by decide, rfl⟩
  split at h
  · rename_i e; subst e; cases h; exact ⟨4, by decide, by decide, rfl⟩
  split at h
  · rename_i e; subst e; cases h; exact ⟨5, by decide, by decide, rfl⟩
  split at h
  · rename_i e; subst e; cases h; exact ⟨6, by decide, by decide, rfl⟩
  split at h
  · rename_i e; subst e; cases h; exact ⟨7, by decide, by decide, rfl⟩
  cases h
theorem single_none {c : UInt8} (h : single c = none) : Lib.indexByte [34, 92, 47, 98, 102, 110, 114, 116] c = -1 := by
  unfold single at h
  repeat' split at h
  all_goals first
    | (cases h; done)
    | skip
  rename_i h1 h2 h3 h4 h5 h6 h7 h8
  have hb : ∀ x : UInt8, ¬ c = x → (x == c) = false := fun x hx => by rw [beq_eq_false_iff_ne]; exact fun e => hx e.symm
  simp [Lib.indexByte, hb _ h1, hb _ h2, hb _ h3, hb _ h4, hb _ h5, hb _ h6, hb _ h7, hb _ h8]
end Go.Proofs.YtkbopeoaoakfnaaDoor
