/- Lists of requests: one appended to another; as they are read. No conditions. -/
import Derived.Test.YtjichadkonlfpaaDoorH15
namespace Go.Proofs.YtjichadkonlfpaaDoor
open Go.RowKit
theorem reqsV_app (L M : List Held1) : reqsV (L ++ M) = reqsV L ++ reqsV M := by simp [reqsV]
theorem inner_app (L M : List Held1) (k : Nat) : k ∈ inner (L ++ M) ↔ k ∈ inner L ∨ k ∈ inner M := by simp [inner]
theorem owns_ne {w : World} {e : TypeId} {sz n : Nat} {v : Value} {xs : List Value} {base : Nat} (h : w.ownsRow base e sz v n xs) : ∃ A c, v = .slice A n c := by
  obtain ⟨A, c, hv, _⟩ := ownR_form h
  exact ⟨A, c, hv⟩
theorem reqC_one {w : World} {x : Held1} (h : w.ownsRow 0 55 2 x.2.1 x.1.hs.length (hsV x.1.hs) ∧ Own8 w 0 x.2.2 x.1.bd) : ∀ u ∈ reqC x, u.oneCell' = true := by
  obtain ⟨A, c, h1⟩ := owns_ne h.1
  obtain ⟨A2, c2, h2⟩ := owns_ne h.2
  intro u hu
  simp only [reqC, List.mem_cons, List.not_mem_nil, or_false] at hu
  rcases hu with rfl | rfl | rfl | rfl | rfl
  · rfl
  · rfl
  · rw [h1]; rfl
  · rw [h2]; rfl
  · rfl
theorem Held.one {w : World} {v : Value} {L : List Held1} (h : Held w v L) : ∀ u ∈ reqsV L, u.oneCell' = true := by
  intro u hu
  obtain ⟨x, hx, hu⟩ := List.mem_flatMap.1 hu
  exact reqC_one (h.mem x hx) u hu
/-- One list appended to another. -/
theorem app_held {ops : Array Oper} {rest : List Oper} {o : Oper} {a : Act} {w : World} {Q : Exit → Act → World → Prop} {s x : Operand} {v : Value} {L M : List Held1} {A : Option Addr} {m c : Nat}
    (hgd : o.guard = none) (ho : o.op = .call { callee := .builtin .append, args := #[s, x], argTypes := #[29, 29] })
    (hs : a.eval s = v) (hx : a.eval x = .slice A m c) (hv : Held w v L) (hm : Held w (.slice A m c) M) (hmM : M.length = m) (hsep : ∀ k, v.ownBlock = some k → k ∉ HL (.slice A m c) M) (hbytes : (L.length + m) * 88 ≤ 140737488355328)
    (h : ∀ v' w', Held w' v' (L ++ M) → w.grownBy w' v.ownBlock → (v'.ownBlock = v.ownBlock ∨ v'.ownBlock = some w.heap.size) → wpList Tryd.prog ops Q rest (a.put o.dst v') w') : wpList Tryd.prog ops Q (o :: rest) a w := by
  obtain ⟨i0, hi0, hz0, hz1, hz2⟩ := info_parts reqinfo
  subst hmM
  refine wpList_append_any w hgd s x 29 ho 0 36 i0 _ 5 88 Tryd.underlying29 hi0 hz0 hz1 hz2 rfl (by decide) v L.length (reqsV L) hs hv.row w.heap.size A M.length c (reqsV M) hx (Reads.of_own hm.row) hm.one (by simp only [maxLen]; omega) hbytes (Nat.zero_le _) ?_
  intro v' w' h1 h2 h3
  have nv : ∀ k, v'.ownBlock = some k → v.ownBlock = some k ∨ w.heap.size ≤ k := fun k hk => by
    rcases h3 with h3 | h3
    · exact .inl (by rw [← h3]; exact hk)
    · rw [h3] at hk; have := Option.some.inj hk; exact .inr (by omega)
  refine h v' w' ⟨by rw [reqsV_app, List.length_append]; exact h1, fun y hy => ?_, fun k hk hk2 => ?_⟩ h2 h3
  · rcases List.mem_append.1 hy with hy | hy
    · have hm1 := hv.mem y hy
      refine ⟨ownR_other hm1.1 h2 (fun k hk e => hv.apart k hk (mem_inner.2 ⟨y, hy, .inl e⟩)), ownR_other hm1.2 h2 (fun k hk e => hv.apart k hk (mem_inner.2 ⟨y, hy, .inr e⟩))⟩
    · have hm1 := hm.mem y hy
      refine ⟨ownR_other hm1.1 h2 (fun k hk e => hsep k hk (mem_HL.2 (.inr (mem_inner.2 ⟨y, hy, .inl e⟩)))), ownR_other hm1.2 h2 (fun k hk e => hsep k hk (mem_HL.2 (.inr (mem_inner.2 ⟨y, hy, .inr e⟩))))⟩
  · have hlt : k < w.heap.size := by
      rcases (inner_app _ _ _).1 hk2 with h4 | h4
      · exact hv.lt k (mem_HL.2 (.inr h4))
      · exact hm.lt k (mem_HL.2 (.inr h4))
    rcases nv k hk with h5 | h5
    · rcases (inner_app _ _ _).1 hk2 with h4 | h4
      · exact hv.apart k h5 h4
      · exact hsep k h5 (mem_HL.2 (.inr h4))
    · omega
/-- A list of requests that is only read. -/
def RR1 (w : World) (x : Held1) : Prop := (∃ A c, x.2.1 = .slice A x.1.hs.length c ∧ Reads w w.heap.size 2 A x.1.hs.length (hsV x.1.hs)) ∧ (∃ A c, x.2.2 = .slice A x.1.bd.length c ∧ Reads w w.heap.size 1 A x.1.bd.length (bvs x.1.bd))
def RR (w : World) (v : Value) (rs : List Req) : Prop := ∃ L : List Held1, L.map (·.1) = rs ∧ (∃ A c, v = .slice A rs.length c ∧ Reads w w.heap.size 5 A rs.length (reqsV L)) ∧ ∀ x ∈ L, RR1 w x
theorem RR1.below {w w' : World} {x : Held1} (h : RR1 w x) (hb : Below w.heap.size w w') : RR1 w' x := by
  obtain ⟨⟨A, c, h1, h2⟩, ⟨A2, c2, h3, h4⟩⟩ := h
  exact ⟨⟨A, c, h1, h2.bel hb hb.size⟩, ⟨A2, c2, h3, h4.bel hb hb.size⟩⟩
theorem RR.below {w w' : World} {v : Value} {rs : List Req} (h : RR w v rs) (hb : Below w.heap.size w w') : RR w' v rs := by
  obtain ⟨L, h1, ⟨A, c, h2, h3⟩, h4⟩ := h
  exact ⟨L, h1, ⟨A, c, h2, h3.bel hb hb.size⟩, fun x hx => (h4 x hx).below hb⟩
theorem Held.rr {w : World} {v : Value} {L : List Held1} (h : Held w v L) : RR w v (L.map (·.1)) := by
  refine ⟨L, rfl, ?_, fun x hx => ⟨?_, ?_⟩⟩
  · obtain ⟨A, c, hv, _, hr⟩ := ownR_form h.row
    exact ⟨A, c, by rw [hv, List.length_map], by rw [List.length_map]; exact hr⟩
  · obtain ⟨A, c, hv, _, hr⟩ := ownR_form (h.mem x hx).1
    exact ⟨A, c, hv, hr⟩
  · obtain ⟨A, c, hv, _, hr⟩ := ownR_form (h.mem x hx).2
    exact ⟨A, c, hv, hr⟩
/-- Where the k-th request lies. -/
theorem rr_at {w : World} {n : Nat} {A : Option Addr} {L : List Held1} (h : Reads w w.heap.size 5 A n (reqsV L)) (hn : L.length = n) (h0 : 0 < n) :
    ∃ b off, A = some ⟨b, off, none⟩ ∧ b < w.heap.size ∧ ∀ w', Below w.heap.size w w' → ∀ (k : Nat) (hk : k < L.length), w'.rangeAt b (off + k * 5) (reqC L[k]) := by
  obtain ⟨ad, rfl, hb, hc⟩ := h.2 h0
  obtain ⟨b, off, sp⟩ := ad
  have hsp : sp = none := by
    have h1 := hc 0 _ (show (reqsV L)[0]? = some _ from by rw [show 0 = 0 * 5 + 0 from rfl, reqsV, flat_at reqC 5 (fun _ => rfl) L 0 (by omega) 0 (by omega)]; rfl)
    simpa [Addr.add] using World.cell?_spot h1
  subst hsp
  refine ⟨b, off, rfl, hb, fun w' hw' k hk j u hu => ?_⟩
  have hj : j < 5 := by
    have := (List.getElem?_eq_some_iff.1 hu).1
    simpa [reqC] using this
  have h1 := hc (k * 5 + j) u (by rw [reqsV, flat_at reqC 5 (fun _ => rfl) L k hk j hj]; exact hu)
  rw [add_none, ← Nat.add_assoc] at h1
  exact (hw'.cell (p := ⟨b, off + k * 5 + j, none⟩) hb).trans h1
end Go.Proofs.YtjichadkonlfpaaDoor
