/- The texts Y11 Y12 of this work, merged by wip/merge.py. No conditions. -/
import Derived.Test.YtnkcnnmhgomphaaDoorQYF
import Derived.Lib.SlBytesConst
namespace Go.Proofs.YtnkcnnmhgomphaaDoor
open Go.RowKit
theorem fresh_dst (n : Nat) : DS.fresh n = dst (List.replicate n zero64) false 0 := rfl
theorem New_dsk (n : Nat) (h1 : 1 ≤ n) (h2 : n ≤ 65536) (w : World) : Calls Tryd.prog 10 #[.int .i64 (n : Int)] w fun e w' => ∃ g S P od, e = .returned (.tuple #[.pointer (some ⟨g, 0, none⟩), .int .i64 0]) ∧ Dsk w' w.heap.size od g (dst (List.replicate n zero64) false 0) S P ∧ Below w.heap.size w w' := by
  refine (New_any n h1 h2 w).mono ?_
  rintro e w' ⟨g, S, P, he, hD, hb⟩
  exact ⟨g, S, P, _, he, hD, hb⟩
def OpenedPost (base : Nat) (od : Nat → Prop) (gd : Nat) (s : DS) (p : Int) (recs : List (List UInt8)) (w : World) (e : Ending) (w' : World) : Prop :=
  ∃ gl own', e = .returned (.tuple #[.pointer (some ⟨gl, 0, none⟩), .bool true]) ∧ LG w' base own' gd gl s p recs ∧ Below w.heap.size w w' ∧ ∀ k, own' k → od k ∨ w.heap.size ≤ k
/-- What room answers. -/
def needN (ls : List (List UInt8)) : Nat := (ls.map fun l => l.length + 64).sum
theorem needN_snoc (ls : List (List UInt8)) (l : List UInt8) : needN (ls ++ [l]) = needN ls + l.length + 64 := by
  simp [needN]; omega
theorem needN_app (a b : List (List UInt8)) : needN (a ++ b) = needN a + needN b := by simp [needN]
theorem needN_take {ls : List (List UInt8)} {k : Nat} {l : List UInt8} (h : ls[k]? = some l) : needN (ls.take (k + 1)) = needN (ls.take k) + l.length + 64 := by
  rw [List.take_add_one, h]
  exact needN_snoc _ _
theorem Open_nil (w : World) : Calls Tryd.prog 11 #[.pointer none] w fun e w' => e = .returned (.tuple #[.pointer none, .int .i64 1]) ∧ w' = w := by
  go_enter Tryd.func11, Tryd.ntmps11
  go_wp2
  go_ret2
  exact ⟨rfl, rfl⟩
theorem Open_small {w : World} {base gd : Nat} {od : Nat → Prop} {s : DS} {S P : Value} (h : Dsk w base od gd s S P) (h64 : s.secs.length < 64) : Calls Tryd.prog 11 #[.pointer (some ⟨gd, 0, none⟩)] w fun e w' => e = .returned (.tuple #[.pointer none, .int .i64 1]) ∧ w' = w := by
  obtain ⟨n, hn⟩ : ∃ n, n = s.secs.length := ⟨_, rfl⟩
  have HN := Lib.hid hn
  have hd : decide ((n : Int) < 64) = true := by simp; omega
  have HD := Lib.hid h
  clear h h64 hn
  go_enter Tryd.func11, Tryd.ntmps11
  go_wp2_with (go_at_call 21; go_must (refine (Sectors_any HD.out).mono ?_; rintro e w_ ⟨rfl, hw_⟩; have hw_ := hw_.symm; subst hw_; rw [← HN.out]))
  go_ret2
  exact ⟨rfl, rfl⟩
theorem Append_nil (v : Value) (w : World) : Calls Tryd.prog 17 #[.pointer none, v] w fun e w' => e = .returned (.int .i64 1) ∧ w' = w := by
  go_enter Tryd.func17, Tryd.ntmps17
  go_wp2
  go_ret
  exact ⟨rfl, rfl⟩
theorem Checkpoint_nil (v : Value) (w : World) : Calls Tryd.prog 19 #[.pointer none, v] w fun e w' => e = .returned (.int .i64 1) ∧ w' = w := by
  go_enter Tryd.func19, Tryd.ntmps19
  go_wp2
  go_ret
  exact ⟨rfl, rfl⟩
theorem Records_nil (w : World) : Calls Tryd.prog 12 #[.pointer none] w fun e w' => e = .returned (.slice none 0 0) ∧ w' = w := by
  go_enter Tryd.func12, Tryd.ntmps12
  go_wp2
  go_ret
  exact ⟨rfl, rfl⟩
theorem take_zero_lay (n : Nat) (hn : 2 ≤ n) (K : List Int) : Lay K (List.replicate n zero64) 1 [] := Lay.fresh K n hn
theorem LG.lt {w : World} {base gd gl : Nat} {own : Nat → Prop} {s : DS} {p : Int} {recs : List (List UInt8)} (h : LG w base own gd gl s p recs) {k : Nat} (hk : own k) : k < w.heap.size := by
  obtain ⟨_, _, _, _, _, h⟩ := h; exact (h.bnd k hk).2
theorem app_a (K : List Int) : appV K (List.replicate 64 zero64) false 1 [] [97] = (0, syncAll (List.replicate 64 zero64) (placeL 1 (frameS K 0 [97])), 2, [[97]]) := by
  unfold appV
  rw [if_neg (by decide), if_neg (by simp [secsN])]
  rfl
end Go.Proofs.YtnkcnnmhgomphaaDoor

namespace Go.Proofs.YtnkcnnmhgomphaaDoor
open Go.RowKit
theorem frames_count (K : List Int) : ∀ (l : List (List UInt8)) (i : Nat), l.length ≤ (framesS K i l).length ∧ 32 * (framesS K i l).length ≤ needN l
  | [], _ => ⟨by simp [framesS], by simp [framesS, needN]⟩
  | r :: l, i => by
    have h := frames_count K l (i + 1)
    have e : needN (r :: l) = r.length + 64 + needN l := by simp [needN]
    have h1 : 1 ≤ secsN r.length ∧ 32 * secsN r.length ≤ r.length + 64 := by unfold secsN; omega
    rw [framesS, List.length_append, frameS_len, List.length_cons, e]
    omega
theorem no_room {K : List Int} {secs : List (List UInt8)} {at_ : Nat} {recs : List (List UInt8)} (h : Lay K secs at_ recs) {r : List UInt8} (hr : secs.length / 2 < at_ + secsN r.length) : decide ((needN (recs ++ [r]) : Int) ≤ ((secs.length : Int) / 2 - 8) * 32) = false := by
  have h1 := frames_count K recs 0
  have h2 := h.place
  have h3 := needN_snoc recs r
  have h4 : 32 * secsN r.length ≤ r.length + 64 := by unfold secsN; omega
  simp only [decide_eq_false_iff_not]
  omega
theorem Lay.count {K : List Int} {secs : List (List UInt8)} {at_ : Nat} {recs : List (List UInt8)} (h : Lay K secs at_ recs) (hm : secs.length ≤ 65536) : recs.length ≤ 40000 := by
  have h1 := (frames_count K recs 0).1
  have h2 := h.place
  have h3 := h.fit
  omega
theorem Lay.need {K : List Int} {secs : List (List UInt8)} {at_ : Nat} {recs : List (List UInt8)} (h : Lay K secs at_ recs) (hm : secs.length ≤ 65536) (hs : ∀ r ∈ recs, r.length ≤ 65536) : needN recs ≤ 1099511627776 := by
  have h1 := h.count hm
  have : ∀ l : List (List UInt8), (∀ r ∈ l, r.length ≤ 65536) → needN l ≤ l.length * 65600 := fun l => by
    induction l with
    | nil => intro _; simp [needN]
    | cons x l ih =>
      intro hl
      have h2 := ih (fun r hr => hl r (List.mem_cons_of_mem _ hr))
      have h3 := hl x (by simp)
      have e : needN (x :: l) = x.length + 64 + needN l := by simp [needN]
      rw [e, List.length_cons]
      omega
  have h4 := this recs hs
  omega
/-- A list whose row is the call's own, and whose members lie where the call found them. -/
structure WantV (w0 wr : World) (v : Value) (ls : List (List UInt8)) (vs : List Value) : Prop where
  row : wr.ownsRow w0.heap.size 48 1 v ls.length vs
  mem : ∀ (i : Nat) (h : i < ls.length), ∃ A c, vs[i]? = some (.slice A ls[i].length c) ∧ ls[i].length ≤ c ∧ Reads w0 w0.heap.size 1 A ls[i].length (bvs ls[i])
theorem WantV.nil (w0 wr : World) : WantV w0 wr (.slice none 0 0) [] [] := ⟨World.ownsRow_nil _ _ _ _, fun i h => by simp at h⟩
theorem WantV.one {w0 wr : World} {v : Value} {ls : List (List UInt8)} {vs : List Value} (h : WantV w0 wr v ls vs) : ∀ u ∈ vs, u.oneCell' = true := by
  intro u hu
  obtain ⟨i, hi, rfl⟩ := List.getElem_of_mem hu
  have hl : i < ls.length := by have := h.row.1; omega
  obtain ⟨A, c, hv, _⟩ := h.mem i hl
  rw [List.getElem?_eq_getElem hi] at hv
  rw [Option.some.inj hv]
  rfl
theorem WantV.keep {w0 wr w' : World} {v : Value} {ls : List (List UInt8)} {vs : List Value} (h : WantV w0 wr v ls vs) (hk : ∀ k, v.ownBlock = some k → w'.heap[k]? = wr.heap[k]?) : WantV w0 w' v ls vs := ⟨row_at h.row hk, h.mem⟩
theorem WantV.form {w0 wr : World} {v : Value} {ls : List (List UInt8)} {vs : List Value} (h : WantV w0 wr v ls vs) : ∃ A c, v = .slice A ls.length c ∧ ls.length ≤ c := by
  obtain ⟨_, ⟨rfl, hn⟩ | ⟨g, cap, cur, rfl, _, _, hc, _⟩⟩ := h.row
  · have e : ls = [] := List.eq_nil_of_length_eq_zero hn
    exact ⟨none, 0, by rw [e]; rfl, by omega⟩
  · exact ⟨_, cap, rfl, hc⟩
theorem WantV.lists {w0 wr : World} {A : Option Addr} {n c : Nat} {ls : List (List UInt8)} {vs : List Value} (h : WantV w0 wr (.slice A n c) ls vs) (hb : Below w0.heap.size w0 wr) : Lists wr wr.heap.size A ls := by
  have hn : n = ls.length := by obtain ⟨A', c', e, _⟩ := h.form; cases e; rfl
  subst hn
  refine ⟨vs, ?_, fun i hi => ?_⟩
  · have h1 := Reads.of_own h.row
    exact h1
  · obtain ⟨A', c', h1, h2, h3⟩ := h.mem i hi
    exact ⟨A', c', h1, h2, (h3.below hb).more hb.size⟩
/-- Appended onto a list of the call's own. -/
theorem appW {ops : Array Oper} {rest : List Oper} {o : Oper} {a : Act} {w : World} {Q : Exit → Act → World → Prop} {s x : Operand} {base B n m c : Nat} {v : Value} {xs news : List Value} {A : Option Addr}
    (hgd : o.guard = none) (ho : o.op = .call { callee := .builtin .append, args := #[s, x], argTypes := #[46, 46] })
    (hs : a.eval s = v) (hx : a.eval x = .slice A m c) (hown : w.ownsRow base 48 1 v n xs) (hr : Reads w B 1 A m news) (h1 : ∀ u ∈ news, u.oneCell' = true) (hbytes : (n + m) * 24 ≤ 140737488355328) (hbase : base ≤ w.heap.size)
    (h : ∀ v' w', w'.ownsRow base 48 1 v' (n + m) (xs ++ news) → w.grownBy w' v.ownBlock → (v'.ownBlock = v.ownBlock ∨ v'.ownBlock = some w.heap.size) → wpList Tryd.prog ops Q rest (a.put o.dst v') w') : wpList Tryd.prog ops Q (o :: rest) a w := by
  obtain ⟨i0, hi0, hz0, hz1, hz2⟩ := info_parts slinfo
  exact wpList_append_any w hgd s x _ ho base 48 i0 _ 1 24 Tryd.underlying46 hi0 hz0 hz1 hz2 rfl (by omega) v n xs hs hown B A m c news hx hr h1 (by simp only [maxLen]; omega) hbytes hbase h
theorem AnyC.startBR {P : Program} {id n : Nat} {Q' : Exit → Act → World → Prop} {a : Act} {w : World} {l : List Oper} (C : World → Prop) (R : Act → World → Prop) (hm : P.follows .mixedOrders = true) (hn : l.length = n)
    (h : ∀ w', Below w.heap.size w w' → AnyC P l.toArray C R n (Array.replicate n false) a w') (hR : ∀ a w, R a w → Q' .normal a w) : (Code.region id l.toArray true).wp P Q' a w :=
  AnyC.startR C R hm hn (h { w with drawn := w.drawn + 1 } ⟨rfl, rfl, rfl, Nat.le_refl _, fun _ _ => rfl⟩) hR
theorem own_empty (w : World) (base : Nat) (hb : base ≤ w.heap.size) : (w.alloc (.cells #[] 48)).ownsRow base 48 1 (.slice (some ⟨w.heap.size, 0, none⟩) 0 0) 0 [] :=
  ⟨rfl, .inr ⟨w.heap.size, 0, #[], rfl, hb, heap_alloc_new w _, Nat.le_refl _, by simp [maxLen], rfl, rfl⟩⟩
theorem reads_one (w : World) (v : Value) : Reads (w.alloc (.cells #[v] 48)) (w.alloc (.cells #[v] 48)).heap.size 1 (some ⟨w.heap.size, 0, none⟩) 1 [v] := by
  have h := reads_new w #[v] 48 1 rfl
  exact h.more (by simp)
theorem keep_R43 {w w' : World} {b43 b36 n : Nat} {xs : List Value} {base e size : Nat} {ys : List Value} {m c : Nat} (h : Reads w w.heap.size 1 (some ⟨b43, 0, none⟩) n xs) (hg : w.grownBy w' (Value.slice (some ⟨b36, 0, none⟩) m c).ownBlock) (_ho : w.ownsRow base e size (.slice (some ⟨b36, 0, none⟩) m c) m ys) (hne : b43 ≠ b36) : Reads w' w'.heap.size 1 (some ⟨b43, 0, none⟩) n xs := by
  refine ⟨h.1, fun h0 => ?_⟩
  obtain ⟨ad, e, hb, hc⟩ := h.2 h0
  cases e
  refine ⟨_, rfl, Nat.lt_of_lt_of_le hb hg.size, fun j u hu => (World.cell?_of_block ?_).trans (hc j u hu)⟩
  rw [block_of_add]
  exact hg.block b43 hb (fun e => by simp [Value.ownBlock] at e; exact hne e)
/-- The new list behind its statement. -/
structure WithV (w0 wr w' : World) (A : Option Addr) (c : Nat) (ls : List (List UInt8)) : Prop where
  ex : ∃ vs, WantV w0 w' (.slice A ls.length c) ls vs
  bel : Below wr.heap.size wr w'
  new : ∀ k, (Value.slice A ls.length c).ownBlock = some k → wr.heap.size ≤ k ∧ k < w'.heap.size
theorem withV_mk {w wr w' : World} {v v' : Value} {recs : List (List UInt8)} {vs : List Value} {r : List UInt8} {m cr : Nat} {Ar : Option Addr} (hW : WantV w wr v recs vs) (hb : Below w.heap.size w wr) (hB : Below wr.heap.size wr w') (ho : w'.ownsRow wr.heap.size 48 1 v' (m + 1) (vs ++ [.slice Ar r.length cr])) (hm : recs.length = m)
    (hr : Reads w w.heap.size 1 Ar r.length (bvs r)) (hcr : r.length ≤ cr) : ∃ A c, v' = .slice A (m + 1) c ∧ WithV w wr w' A c (recs ++ [r]) := by
  subst hm
  have hlt := World.ownsRow.lt ho
  have hl : (recs ++ [r]).length = recs.length + 1 := by simp
  have hvl : vs.length = recs.length := by have := hW.row.1; omega
  have ho2 : w'.ownsRow w.heap.size 48 1 v' (recs ++ [r]).length (vs ++ [.slice Ar r.length cr]) := by
    rw [hl]; exact ownsRow_low ho hb.size
  have hWV : WantV w w' v' (recs ++ [r]) (vs ++ [.slice Ar r.length cr]) := by
    refine ⟨ho2, fun i hi => ?_⟩
    rcases Nat.lt_or_ge i recs.length with h | h
    · obtain ⟨A, c, h1, h2, h3⟩ := hW.mem i h
      refine ⟨A, c, ?_, ?_, ?_⟩
      · rw [List.getElem?_append_left (by omega), h1, List.getElem_append_left h]
      · rw [List.getElem_append_left h]; exact h2
      · rw [List.getElem_append_left h]; exact h3
    · have e : i = recs.length := by omega
      subst e
      refine ⟨Ar, cr, ?_, ?_, ?_⟩
      · have e2 : (vs ++ [Value.slice Ar r.length cr])[recs.length]? = some (Value.slice Ar r.length cr) := by
          rw [List.getElem?_append_right (by omega), hvl, Nat.sub_self]; rfl
        rw [e2]
        simp
      · simpa using hcr
      · simpa using hr
  obtain ⟨A, c, hv, _⟩ := hWV.form
  rw [hv] at hWV hlt
  exact ⟨A, c, by rw [hv, hl], ⟨_, hWV⟩, hB, hlt⟩
/-- What holds between two records. -/
structure FullI (K : List Int) (w0 wr : World) (gd gl N : Nat) (v : Value) (recs : List (List UInt8)) : Prop where
  ex : ∃ (secs : List (List UInt8)) (at_ : Nat) (full : Bool) (f : Int) (own : Nat → Prop) (vs : List Value) (base : Nat), w0.heap.size ≤ base ∧ LG wr base own gd gl (dst secs full f) (at_ : Int) recs ∧ Lay K secs at_ recs ∧ (∀ r ∈ recs, r.length ≤ 65536) ∧ secs.length = N ∧ WantV w0 wr v recs vs ∧ (∀ k, v.ownBlock = some k → ¬ own k)
  bel : Below w0.heap.size w0 wr
theorem Turns.bel {w0 w w' : World} {base gd gl : Nat} {own : Nat → Prop} {s : DS} {p : Int} {recs : List (List UInt8)} (hT : Turns own w w') (hL : LG w base own gd gl s p recs) (hb : w0.heap.size ≤ base) (h : Below w0.heap.size w0 w) : Below w0.heap.size w0 w' :=
  h.trans ⟨hT.os, hT.tape, hT.output, hT.size, fun k hk => hT.block k (Nat.lt_of_lt_of_le hk h.size) (fun e => by
    obtain ⟨_, _, _, _, _, hx⟩ := hL
    have := (hx.bnd k e).1
    omega)⟩
end Go.Proofs.YtnkcnnmhgomphaaDoor
