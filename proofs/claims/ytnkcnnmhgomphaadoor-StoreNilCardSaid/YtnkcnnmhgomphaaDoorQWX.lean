/- The texts W10 of this work, merged by wip/merge.py. No conditions. -/
import Derived.Test.YtnkcnnmhgomphaaDoorQW
namespace Go.Proofs.YtnkcnnmhgomphaaDoor
open Go.RowKit

structure MutV (wz wr : World) (base mid_ : Nat) (x : Value) (N : Nat) (f : Nat → Nat) (vs : List Value) : Prop where
  row : wr.ownsRow base 48 1 x N vs
  each : ∀ i, i < N → ∃ u l, vs[i]? = some u ∧ Own8 wr base u l ∧ l.length = f i ∧ (u.ownBlock = none ∨ u.ownBlock ≠ x.ownBlock) ∧ ∀ k, u.ownBlock = some k → k < mid_ ∨ wz.heap.size ≤ k
  apart : ∀ (i j : Nat) (u u' : Value), i < j → vs[i]? = some u → vs[j]? = some u' → u.ownBlock = none ∨ u.ownBlock ≠ u'.ownBlock
  xin : ∀ k, x.ownBlock = some k → k < mid_
  bel : Below base wz wr
  mid : ∀ k, mid_ ≤ k → k < wz.heap.size → wr.heap[k]? = wz.heap[k]?
  le : base ≤ wz.heap.size
variable {wz wr w' : World} {base mid_ N i : Nat} {x u u' : Value} {f : Nat → Nat} {vs : List Value}

theorem MutV.apart' (h : MutV wz wr base mid_ x N f vs) {i j : Nat} {u u' : Value} (hij : i ≠ j) (hu : vs[i]? = some u) (hu' : vs[j]? = some u') : u.ownBlock = none ∨ u.ownBlock ≠ u'.ownBlock := by
  rcases Nat.lt_or_gt_of_ne hij with hlt | hlt
  · exact h.apart i j u u' hlt hu hu'
  · rcases h.apart j i u' u hlt hu' hu with h1 | h1
    · rw [h1]; cases u.ownBlock <;> simp
    · exact .inr (Ne.symm h1)
theorem MutV.leN (h : MutV wz wr base mid_ x N f vs) : base ≤ wr.heap.size := Nat.le_trans h.le h.bel.size
theorem MutV.keep (h : MutV wz wr base mid_ x N f vs) (hi : i < N) (hu : vs[i]? = some u) (hg : wr.grownBy w' u.ownBlock) :
    w'.ownsRow base 48 1 x N vs ∧ (∀ j, j < N → j ≠ i → ∃ u l, vs[j]? = some u ∧ Own8 w' base u l ∧ l.length = f j ∧ (u.ownBlock = none ∨ u.ownBlock ≠ x.ownBlock) ∧ ∀ k, u.ownBlock = some k → k < mid_ ∨ wz.heap.size ≤ k) ∧
    Below base wz w' ∧ ∀ k, mid_ ≤ k → k < wz.heap.size → w'.heap[k]? = wz.heap[k]? := by
  obtain ⟨y, l, hy, hown, hlen, hne, hloc⟩ := h.each i hi
  rw [hu] at hy
  cases hy
  refine ⟨World.ownsRow.kept h.row hg ?_, fun j hj hji => ?_, h.bel.grown hg h.leN (fun k hk => (own8_lt hown k hk).1), fun k h1 h2 => ?_⟩
  · rcases hne with h1 | h1
    · rw [h1]; cases x.ownBlock <;> simp
    · exact .inr (Ne.symm h1)
  · obtain ⟨z, m, hz, hownz, hlz, hnz, hlocz⟩ := h.each j hj
    exact ⟨z, m, hz, own8_keep hownz hg (h.apart' hji hz hu), hlz, hnz, hlocz⟩
  · rw [hg.block k (Nat.lt_of_lt_of_le h2 h.bel.size) (fun e => ?_)]
    · exact h.mid k h1 h2
    · rcases hloc k e.symm with h3 | h3 <;> omega
/-- The element's own bytes are turned; its length is not. -/
theorem MutV.same (h : MutV wz wr base mid_ x N f vs) (hi : i < N) (hu : vs[i]? = some u) (hg : wr.grownBy w' u.ownBlock) {l : List UInt8} (hown' : Own8 w' base u l) (hl : l.length = f i) : MutV wz w' base mid_ x N f vs := by
  obtain ⟨y, m, hy, hown, hlen, hne, hloc⟩ := h.each i hi
  rw [hu] at hy
  cases hy
  obtain ⟨k1, k2, k3, k4⟩ := h.keep hi hu hg
  refine ⟨k1, fun j hj => ?_, h.apart, h.xin, k3, k4, h.le⟩
  by_cases hji : j = i
  · subst hji; exact ⟨u, l, hu, hown', hl, hne, hloc⟩
  · exact k2 j hj hji
theorem row_form {w : World} {base n cap g : Nat} {vs : List Value} {e : TypeId} (h : w.ownsRow base e 1 (.slice (some ⟨g, 0, none⟩) n cap) n vs) : w.frozen? ⟨g, 0, none⟩ = false ∧ (∀ i, w.frozen? ⟨g, i, none⟩ = false) ∧ ∀ i, i < n → ∃ u, vs[i]? = some u ∧ w.cell? ⟨g, i, none⟩ = some u := by
  have hr := Reads.of_own h
  obtain ⟨_, ⟨h', _⟩ | ⟨g', cap', cur, h', hb, hg, _⟩⟩ := h
  · simp at h'
  · simp only [Value.slice.injEq, Option.some.injEq, Addr.mk.injEq, and_true] at h'
    obtain ⟨rfl, _⟩ := h'
    refine ⟨by simp [World.frozen?, hg], fun i => by simp [World.frozen?, hg], fun i hi => ?_⟩
    obtain ⟨b, off, u, e, _, hu, hc⟩ := hr.at_ hi
    cases e
    rw [Nat.zero_add] at hc
    exact ⟨u, hu, hc⟩
theorem row_slice {w : World} {base n : Nat} {vs : List Value} {e : TypeId} {x : Value} (h : w.ownsRow base e 1 x n vs) (hn : 0 < n) : ∃ g cap, x = .slice (some ⟨g, 0, none⟩) n cap ∧ base ≤ g ∧ g < w.heap.size ∧ n ≤ cap := by
  obtain ⟨_, ⟨_, h'⟩ | ⟨g', cap', cur, h', hb, hg, hc, _⟩⟩ := h
  · omega
  · exact ⟨g', cap', h', hb, (Array.getElem?_eq_some_iff.1 hg).1, hc⟩
/-- What a round finds at i. -/
theorem MutV.elt (h : MutV wz wr base mid_ x N f vs) (hi : i < N) : ∃ gx cx A c l, x = .slice (some ⟨gx, 0, none⟩) N cx ∧ wr.cell? ⟨gx, i, none⟩ = some (.slice A (f i) c) ∧ f i ≤ c ∧ l.length = f i ∧ vs[i]? = some (.slice A (f i) c) ∧ Own8 wr base (.slice A (f i) c) l ∧ base ≤ gx := by
  obtain ⟨gx, cx, rfl, hb, _, _⟩ := row_slice h.row (by omega)
  obtain ⟨u, l, hu, hown, hl, _, _⟩ := h.each i hi
  obtain ⟨y, hy, hc⟩ := (row_form h.row).2.2 i hi
  rw [hu] at hy
  cases hy
  obtain ⟨A, c, rfl, hc', _⟩ := own8_form' hown hl
  exact ⟨gx, cx, A, c, l, rfl, hc, hc', hl, hu, hown, hb⟩
/-- The element is replaced. -/
theorem MutV.put {gx cx : Nat} (h : MutV wz wr base mid_ (.slice (some ⟨gx, 0, none⟩) N cx) N f vs) (hi : i < N) (hu : vs[i]? = some u) (hg : wr.grownBy w' u.ownBlock) {l' : List UInt8} (hown' : Own8 w' base u' l')
    (hb' : u'.ownBlock = u.ownBlock ∨ ∃ k, u'.ownBlock = some k ∧ wr.heap.size ≤ k) {f' : Nat → Nat} (hf : f' i = l'.length) (hf' : ∀ j, j ≠ i → f' j = f j) :
    MutV wz (w'.setCell ⟨gx, i, none⟩ u') base mid_ (.slice (some ⟨gx, 0, none⟩) N cx) N f' (vs.set i u') := by
  obtain ⟨y, m, hy, hown, hlen, hne, hloc⟩ := h.each i hi
  rw [hu] at hy
  cases hy
  obtain ⟨k1, k2, k3, k4⟩ := h.keep hi hu hg
  obtain ⟨s1, s2⟩ := World.ownsRow.stored k1 i u'
  have hxb : ∀ k, (Value.slice (some ⟨gx, 0, none⟩) N cx).ownBlock = some k → k < wr.heap.size ∧ base ≤ k := fun k hk => ⟨(World.ownsRow.lt h.row k hk).2, (World.ownsRow.lt h.row k hk).1⟩
  have hgx := hxb gx rfl
  have hvl : i < vs.length := (List.getElem?_eq_some_iff.1 hu).1
  have hne' : u'.ownBlock = none ∨ u'.ownBlock ≠ some gx := by
    rcases hb' with e | ⟨k, e, hk⟩
    · rw [e]; exact hne
    · rw [e]; exact .inr fun e => by cases e; omega
  refine ⟨s1, fun j hj => ?_, fun p q y y' hpq hy hy' => ?_, h.xin, k3.grown s2 (Nat.le_trans h.le k3.size) (fun k hk => by cases hk; exact hgx.2), fun k h1 h2 => ?_, h.le⟩
  · by_cases hji : j = i
    · subst hji
      refine ⟨u', l', by simp [hvl], own8_keep hown' s2 hne', hf.symm, hne', fun k hk => ?_⟩
      rcases hb' with e | ⟨k', e, hk'⟩
      · exact hloc k (e ▸ hk)
      · rw [e] at hk; cases hk
        exact .inr (Nat.le_trans h.bel.size hk')
    · obtain ⟨z, m, hz, hownz, hlz, hnz, hlocz⟩ := k2 j hj hji
      exact ⟨z, m, by rw [List.getElem?_set_ne (Ne.symm hji)]; exact hz, own8_keep hownz s2 hnz, by rw [hf' j hji]; exact hlz, hnz, hlocz⟩
  · have hold : ∀ {p : Nat} {y : Value}, p ≠ i → vs[p]? = some y → (y.ownBlock = none ∨ y.ownBlock ≠ u'.ownBlock) := fun {p y} hp hy => by
      rcases hb' with e | ⟨k, e, hk⟩
      · rw [e]; exact h.apart' hp hy hu
      · cases hyb : y.ownBlock with
        | none => exact .inl rfl
        | some k0 =>
          have hpN : p < N := by
            have h1 := (List.getElem?_eq_some_iff.1 hy).1
            have h2 := h.row.1
            omega
          obtain ⟨z, _, hz, hownz, _⟩ := h.each p hpN
          rw [hy] at hz; cases hz
          have := (own8_lt hownz k0 hyb).2
          rw [e]
          exact .inr fun e => by cases e; omega
    by_cases hp : p = i
    · subst hp
      have hq : q ≠ p := by omega
      rw [List.getElem?_set_ne (Ne.symm hq)] at hy'
      have hy0 : y = u' := by
        have := List.getElem?_set_self (l := vs) (a := u') hvl
        rw [this] at hy; cases hy; rfl
      subst hy0
      rcases hold hq hy' with h1 | h1
      · rw [h1]; cases y.ownBlock <;> simp
      · exact .inr (Ne.symm h1)
    · rw [List.getElem?_set_ne (Ne.symm hp)] at hy
      by_cases hq : q = i
      · subst hq
        have hy0 : y' = u' := by
          have := List.getElem?_set_self (l := vs) (a := u') hvl
          rw [this] at hy'; cases hy'; rfl
        subst hy0
        exact hold hp hy
      · rw [List.getElem?_set_ne (Ne.symm hq)] at hy'
        exact h.apart p q y y' hpq hy hy'
  · rw [s2.block k (Nat.lt_of_lt_of_le h2 k3.size) (fun e => by cases e; have := h.xin gx rfl; omega)]
    exact k4 k h1 h2
/-- The start. -/
theorem MutV.start {wx : World} {ls : List (List UInt8)} (h : OwnL wx base x ls) (hwx : wx.heap.size = mid_) (hb : Below wx.heap.size wx wz) (hle : base ≤ wx.heap.size) : ∃ vs, MutV wz wz base mid_ x ls.length (fun i => (ls.getD i []).length) vs := by
  have hblk : ∀ i (u : Value) vs, OwnLL wx base x ls vs → i < ls.length → vs[i]? = some u → ∀ k, u.ownBlock = some k → k < mid_ := fun i u vs hL hi hu k hk => by
    obtain ⟨y, hy, ho, _⟩ := hL.each i hi
    rw [hu] at hy; cases hy
    have := (own8_lt ho k hk).2
    omega
  obtain ⟨vs, hL⟩ := h
  refine ⟨vs, World.ownsRow.kept hL.row (grown_of_below hb none) (by cases x.ownBlock <;> simp), fun i hi => ?_, hL.apart, fun k hk => hwx ▸ (World.ownsRow.lt hL.row k hk).2, Below.refl _ _, fun _ _ _ => rfl, Nat.le_trans hle hb.size⟩
  obtain ⟨u, hu, ho, hne⟩ := hL.each i hi
  refine ⟨u, ls[i], hu, own8_below ho hb, by simp [List.getD, hi], hne, fun k hk => .inl (hblk i u vs hL hi hu k hk)⟩
/-- What lies between stays. -/
theorem OwnL.keepB {w w' : World} {b : Nat} {v : Value} {ls : List (List UInt8)} (h : OwnL w b v ls) (hk : ∀ k, b ≤ k → k < w.heap.size → w'.heap[k]? = w.heap[k]?) : OwnL w' b v ls := by
  have key : ∀ {e : TypeId} {n : Nat} {v : Value} {xs : List Value}, w.ownsRow b e 1 v n xs → w'.ownsRow b e 1 v n xs := fun {e n v xs} h => by
    obtain ⟨hl, h0 | ⟨g, cap, cur, h1, h2, h3, h4⟩⟩ := h
    · exact ⟨hl, .inl h0⟩
    · exact ⟨hl, .inr ⟨g, cap, cur, h1, h2, by rw [hk g h2 (Array.getElem?_eq_some_iff.1 h3).1]; exact h3, h4⟩⟩
  obtain ⟨vs, hL⟩ := h
  refine ⟨vs, key hL.row, fun i hi => ?_, hL.apart⟩
  obtain ⟨u, hu, ho, hne⟩ := hL.each i hi
  exact ⟨u, hu, key ho, hne⟩
theorem MutV.elt2 {gx cx z : Nat} (h : MutV wz wr base mid_ (.slice (some ⟨gx, 0, none⟩) N cx) N f vs) (hi : i < N) (hz : f i = z) :
    ∃ A c l, wr.cell? ⟨gx, i, none⟩ = some (.slice A z c) ∧ z ≤ c ∧ l.length = z ∧ vs[i]? = some (.slice A z c) ∧ Own8 wr base (.slice A z c) l ∧ gx < wr.heap.size := by
  have hlt := (World.ownsRow.lt h.row gx rfl).2
  obtain ⟨gx', cx', A, c, l, e, h1, h2, h3, h4, h5, _⟩ := h.elt hi
  subst hz
  cases e
  exact ⟨A, c, l, h1, h2, h3, h4, h5, hlt⟩
/-- 'x[i][j] = 9' -/
theorem MutV.elt3 {gx cx z j : Nat} (h : MutV wz wr base mid_ (.slice (some ⟨gx, 0, none⟩) N cx) N f vs) (hi : i < N) (hz : f i = z) (hj : j < z) (u : UInt8) (x : Int) (hx : x = (u.toNat : Int)) :
    ∃ g8 c y, wr.cell? ⟨gx, i, none⟩ = some (.slice (some ⟨g8, 0, none⟩) z c) ∧ wr.cell? ⟨g8, j, none⟩ = some y ∧ wr.frozen? ⟨g8, j, none⟩ = false ∧ MutV wz (wr.setCell ⟨g8, j, none⟩ (.int .u8 x)) base mid_ (.slice (some ⟨gx, 0, none⟩) N cx) N f vs := by
  obtain ⟨A, c, l, h1, h2, h3, h4, h5, _⟩ := h.elt2 hi hz
  subst h3
  obtain ⟨g8, c8, e, _, _, _⟩ := row_slice h5 (by omega)
  cases e
  obtain ⟨_, hfz, hcell⟩ := row_form h5
  obtain ⟨y, _, hy⟩ := hcell j hj
  obtain ⟨s1, s2⟩ := store8 h5 (k := j) u x hx
  exact ⟨g8, c, y, h1, hy, hfz j, h.same hi h4 s2 s1 (by rw [List.length_set]; exact hz.symm)⟩
/-- 'x[i] = append(x[i], 9)' -/
theorem MutV.elt4 {gx cx z : Nat} (h : MutV wz wr base mid_ (.slice (some ⟨gx, 0, none⟩) N cx) N f vs) (hi : i < N) {A : Option Addr} {c : Nat} (hu : vs[i]? = some (.slice A z c))
    {o : Obj} {v' : Value} {l' : List UInt8} (hg : (wr.alloc o).grownBy w' (Value.slice A z c).ownBlock) (hown : Own8 w' base v' l') (hl : l'.length = z + 1) (hx : v'.ownBlock = (Value.slice A z c).ownBlock ∨ v'.ownBlock = some (wr.alloc o).heap.size) :
    ∃ y, w'.cell? ⟨gx, i, none⟩ = some y ∧ w'.frozen? ⟨gx, i, none⟩ = false ∧ MutV wz (w'.setCell ⟨gx, i, none⟩ v') base mid_ (.slice (some ⟨gx, 0, none⟩) N cx) N (fun m => if m = i then z + 1 else f m) (vs.set i v') := by
  have hg' : wr.grownBy w' (Value.slice A z c).ownBlock := (World.grownBy_alloc wr _ _).trans hg
  obtain ⟨k1, _⟩ := h.keep hi hu hg'
  obtain ⟨_, hfz, hcell⟩ := row_form k1
  obtain ⟨y, _, hy⟩ := hcell i hi
  refine ⟨y, hy, hfz i, h.put hi hu hg' hown ?_ (by simp [hl]) (fun j hj => by simp [hj])⟩
  rcases hx with e | e
  · exact .inl e
  · exact .inr ⟨_, e, by simp⟩
end Go.Proofs.YtnkcnnmhgomphaaDoor
