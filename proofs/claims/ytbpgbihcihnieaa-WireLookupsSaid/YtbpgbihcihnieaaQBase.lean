/- The texts Mem Plain U8 Lst Bits Reg Reg2 Reg3 Reg6 Reg7 Reg8 G1 of this work, merged by wip/merge.py. No conditions. -/
import Derived.WalkKit
import Derived.Maps.AppendAt
import Derived.Deep.AppendLies
import Derived.Deep.Draws
import Derived.Lib.Hide
import Derived.Test.YtbpgbihcihnieaaProg
import Derived.Deep.Quiet
import Derived.Deep.MidRow
namespace Go.Proofs.Ytbpgbihcihnieaa
open Go.RowKit

theorem block_of_add (a : Addr) (n : Nat) : (a.add n).block = a.block := by unfold Addr.add; split <;> rfl
theorem add_of_add (a : Addr) (i j : Nat) : (a.add i).add j = a.add (i + j) := by
  unfold Addr.add
  by_cases hi : i = 0 <;> by_cases hj : j = 0 <;> simp [hi, hj, Nat.add_assoc]

/-- The slice value '.slice A n c' holds the cells xs ('size' cells an element), in a block below B. -/
def Reads (w : World) (B size : Nat) (A : Option Addr) (n : Nat) (xs : List Value) : Prop :=
  xs.length = n * size ∧ (0 < n → ∃ ad, A = some ad ∧ ad.block < B ∧ ∀ j u, xs[j]? = some u → w.cell? (ad.add j) = some u)

section
variable {w w' : World} {B B' size n : Nat} {A : Option Addr} {xs : List Value}
theorem Reads.none_ : Reads w B size A 0 [] := ⟨by simp, fun h => absurd h (by omega)⟩
theorem add_none (b off j : Nat) : (⟨b, off, none⟩ : Addr).add j = ⟨b, off + j, none⟩ := by unfold Addr.add; split <;> simp_all
theorem Reads.at_ {k : Nat} (h : Reads w B 1 A n xs) (hk : k < n) : ∃ b off u, A = some ⟨b, off, none⟩ ∧ b < B ∧ xs[k]? = some u ∧ w.cell? ⟨b, off + k, none⟩ = some u := by
  obtain ⟨⟨b, off, spot⟩, e, hb, hc⟩ := h.2 (by omega)
  have hl : k < xs.length := by have := h.1; omega
  have h0 := hc 0 _ (List.getElem?_eq_getElem (show 0 < xs.length by omega))
  have hs : spot = none := by simpa [Addr.add] using World.cell?_spot h0
  subst hs
  have hk' := hc k _ (List.getElem?_eq_getElem hl)
  rw [add_none] at hk'
  exact ⟨b, off, xs[k], e, hb, List.getElem?_eq_getElem hl, hk'⟩
theorem Reads.keep (h : Reads w B size A n xs) (hk : ∀ p : Addr, p.block < B → w'.cell? p = w.cell? p) : Reads w' B size A n xs :=
  ⟨h.1, fun hn => by
    obtain ⟨ad, e, hb, hc⟩ := h.2 hn
    exact ⟨ad, e, hb, fun j u hu => (hk _ (by rw [block_of_add]; exact hb)).trans (hc j u hu)⟩⟩
theorem Reads.more (h : Reads w B size A n xs) (hB : B ≤ B') : Reads w B' size A n xs :=
  ⟨h.1, fun hn => by
    obtain ⟨ad, e, hb, hc⟩ := h.2 hn
    exact ⟨ad, e, by omega, hc⟩⟩
theorem Reads.below (h : Reads w B size A n xs) (hb : Below B w w') : Reads w' B size A n xs := h.keep fun _ hp => hb.cell hp
theorem Reads.drew (h : Reads w B size A n xs) : Reads w.drew B size A n xs := h
theorem Reads.drewN (h : Reads w B size A n xs) (k : Nat) : Reads (w.drewN k) B size A n xs := h
theorem Reads.alloc (h : Reads w B size A n xs) (hB : B ≤ w.heap.size) (o : Obj) : Reads (w.alloc o) B size A n xs := h.keep fun p hp => World.cell?_alloc_lt w o p (by omega)
theorem Reads.setCell (h : Reads w B size A n xs) {p : Addr} (hB : B ≤ p.block) (u : Value) : Reads (w.setCell p u) B size A n xs :=
  h.keep fun q hq => World.cell?_setCell_other w p q u (fun e => by subst e; omega)
theorem Reads.grown (h : Reads w B size A n xs) {row : Option Nat} (hg : w.grownBy w' row) (hB : B ≤ w.heap.size) (hr : ∀ g, row = some g → B ≤ g) : Reads w' B size A n xs :=
  h.keep fun p hp => World.cell?_of_block (hg.block p.block (by omega) (fun e => by have := hr _ e.symm; omega))
theorem Reads.cut (h : Reads w B size A n xs) {k cap : Nat} (hk : k ≤ n) (hc : n ≤ cap) :
    Reads w B size (if cap = k then A else A.map (·.add (k * size))) (n - k) (xs.drop (k * size)) := by
  refine ⟨by rw [List.length_drop, h.1, Nat.sub_mul], fun hn => ?_⟩
  obtain ⟨ad, rfl, hb, hcell⟩ := h.2 (by omega)
  rw [if_neg (by omega)]
  refine ⟨ad.add (k * size), rfl, by rw [block_of_add]; exact hb, fun j u hu => ?_⟩
  rw [add_of_add]
  exact hcell _ u (by rw [← hu, List.getElem?_drop])
theorem Reads.take (h : Reads w B size A n xs) {k : Nat} (hk : k ≤ n) : Reads w B size A k (xs.take (k * size)) := by
  have hl : k * size ≤ n * size := Nat.mul_le_mul_right _ hk
  refine ⟨by rw [List.length_take, h.1]; omega, fun hn => ?_⟩
  obtain ⟨ad, rfl, hb, hcell⟩ := h.2 (by omega)
  refine ⟨ad, rfl, hb, fun j u hu => hcell j u ?_⟩
  rw [List.getElem?_take] at hu
  split at hu
  · exact hu
  · cases hu
theorem Reads.of_own {base : Nat} {e : TypeId} {c : Nat} (h : w.ownsRow base e size (.slice A n c) n xs) : Reads w w.heap.size size A n xs := by
  refine ⟨h.1, fun hn => ?_⟩
  obtain ⟨g, cap, hv, _, hlt⟩ := h.form hn
  have hA : A = some ⟨g, 0, none⟩ := by injection hv
  subst hA
  exact ⟨_, rfl, hlt, h.cells (g := g) rfl⟩
end

theorem cell_new (w : World) (cs : Array Value) (t : TypeId) (i : Nat) : (w.alloc (.cells cs t)).cell? ⟨w.heap.size, i, none⟩ = cs[i]? :=
  cell_of_row _ w.heap.size i cs t (0, 0) (heap_alloc_new w _)
theorem cell_at {w : World} {cs : Array Value} {t : TypeId} {g i : Nat} {u : Value} (hg : g = w.heap.size) (hu : cs[i]? = some u) : (w.alloc (.cells cs t)).cell? ⟨g, i, none⟩ = some u := by
  subst hg; rw [cell_new]; exact hu
/-- A byte as a cell. -/
def bv (b : UInt8) : Value := .int .u8 (b.toNat : Int)
def bvs (l : List UInt8) : List Value := l.map bv
theorem bvs_length (l : List UInt8) : (bvs l).length = l.length := by simp [bvs]
theorem bvs_append (l m : List UInt8) : bvs (l ++ m) = bvs l ++ bvs m := by simp [bvs]
theorem bvs_one (l : List UInt8) : ∀ u ∈ bvs l, u.oneCell' = true := by
  intro u hu
  simp only [bvs, List.mem_map] at hu
  obtain ⟨b, _, rfl⟩ := hu
  rfl
theorem bvs_inj {l m : List UInt8} (h : bvs l = bvs m) : l = m := by
  induction l generalizing m with
  | nil => cases m with
    | nil => rfl
    | cons _ _ => simp [bvs] at h
  | cons a l ih => cases m with
    | nil => simp [bvs] at h
    | cons b m =>
      simp only [bvs, List.map_cons, List.cons.injEq, bv, Value.int.injEq, true_and] at h
      have h1 : a = b := UInt8.toNat_inj.1 (by exact_mod_cast h.1)
      rw [h1, ih h.2]

section
variable {P : Program} (w : World)

theorem run_append_of_nil (base : Nat) (t ty e : TypeId) (i : TypeInfo) (size : Nat) (ht : P.underlying t = some (.slice e)) (hi : P.info? e = some i)
    (v : Value) (n : Nat) (xs : List Value) (hown : w.ownsRow base e size v n xs) (c : Nat) : (Builtin.append_ #[t, t] ty #[v, .slice none 0 c]).run P w = .ok v w := by
  rcases hown.2 with ⟨rfl, rfl⟩ | ⟨g, cap, cur, rfl, _, _, hnc, _⟩
  · simp [Builtin.append_, run_underlying ht, sizeOf, typeInfo, hi, Builtin.lenOf, Builtin.firstCells]
  · simp [Builtin.append_, run_underlying ht, sizeOf, typeInfo, hi, Builtin.lenOf, Builtin.firstCells, hnc, storeCells]

theorem run_append_any (base : Nat) (t ty e : TypeId) (i : TypeInfo) (z : Value) (size bytes : Nat) (ht : P.underlying t = some (.slice e)) (hi : P.info? e = some i) (hz : i.zero = some z)
    (hsize : i.size = size) (hby : i.bytes = bytes) (hzs : z.cells.size = size) (hsz : 0 < size)
    (v : Value) (n : Nat) (xs : List Value) (hown : w.ownsRow base e size v n xs)
    (B : Nat) (A : Option Addr) (m c : Nat) (news : List Value) (hr : Reads w B size A m news) (h1 : ∀ u ∈ news, u.oneCell' = true)
    (h63 : n + m ≤ maxLen) (hbytes : (n + m) * bytes ≤ 140737488355328) (hbase : base ≤ w.heap.size) :
    ∃ v' w', (Builtin.append_ #[t, t] ty #[v, .slice A m c]).run P w = .ok v' w' ∧ w'.ownsRow base e size v' (n + m) (xs ++ news) ∧ w.grownBy w' v.ownBlock ∧
      (v'.ownBlock = v.ownBlock ∨ v'.ownBlock = some w.heap.size) := by
  rcases A with _ | ad
  · have hm : m = 0 := by
      rcases Nat.eq_zero_or_pos m with h0 | h0
      · exact h0
      · obtain ⟨ad, h, _⟩ := hr.2 h0
        cases h
    subst hm
    have hn : news = [] := List.eq_nil_of_length_eq_zero (by simpa using hr.1)
    subst hn
    exact ⟨v, w, run_append_of_nil w base t ty e i size ht hi v n xs hown c, by simpa using hown, World.grownBy.refl w _, .inl rfl⟩
  · have hcells : ∀ j u, news[j]? = some u → w.cell? (ad.add j) = some u := by
      intro j u hu
      rcases Nat.eq_zero_or_pos m with h0 | h0
      · subst h0
        have hn : news = [] := List.eq_nil_of_length_eq_zero (by simpa using hr.1)
        subst hn
        simp at hu
      · obtain ⟨ad', h, _, hc⟩ := hr.2 h0
        injection h with h
        subst h
        exact hc j u hu
    obtain ⟨v', w', hrun, h2, h3, _, h5⟩ := run_append_own_at (P := P) w base t ty e i z size bytes ht hi hz hsize hby hzs hsz v n xs hown ad m c news hr.1 hcells h1 h63 hbytes hbase
    exact ⟨v', w', hrun, h2, h3, h5⟩

theorem wp_append_any {o : Oper} {a : Act} {K : Act → World → Prop} {Q : Exit → Act → World → Prop} (s x : Operand) (t : TypeId)
    (ho : o.op = .call { callee := .builtin .append, args := #[s, x], argTypes := #[t, t] })
    (base : Nat) (e : TypeId) (i : TypeInfo) (z : Value) (size bytes : Nat) (ht : P.underlying t = some (.slice e)) (hi : P.info? e = some i) (hz : i.zero = some z)
    (hsize : i.size = size) (hby : i.bytes = bytes) (hzs : z.cells.size = size) (hsz : 0 < size)
    (v : Value) (n : Nat) (xs : List Value) (hs : a.eval s = v) (hown : w.ownsRow base e size v n xs)
    (B : Nat) (A : Option Addr) (m c : Nat) (news : List Value) (hx : a.eval x = .slice A m c) (hr : Reads w B size A m news) (h1 : ∀ u ∈ news, u.oneCell' = true)
    (h63 : n + m ≤ maxLen) (hbytes : (n + m) * bytes ≤ 140737488355328) (hbase : base ≤ w.heap.size)
    (h : ∀ v' w', w'.ownsRow base e size v' (n + m) (xs ++ news) → w.grownBy w' v.ownBlock → (v'.ownBlock = v.ownBlock ∨ v'.ownBlock = some w.heap.size) → K (a.put o.dst v') w') : o.wp P a w K Q := by
  obtain ⟨v', w', hrun, h2, h3, h4⟩ := run_append_any (P := P) w base t o.type e i z size bytes ht hi hz hsize hby hzs hsz v n xs hown B A m c news hr h1 h63 hbytes hbase
  unfold Oper.wp execOp
  simp only [ho, resolve, invoke, builtin, Sem.run_bind, Sem.run_pure, Result.andThen_ok, List.map_toArray, List.map_cons, List.map_nil, hs, hx, hrun]
  exact h v' w' h2 h3 h4

theorem wpList_append_any {ops : Array Oper} {rest : List Oper} {o : Oper} {a : Act} {Q : Exit → Act → World → Prop} (hgd : o.guard = none) (s x : Operand) (t : TypeId)
    (ho : o.op = .call { callee := .builtin .append, args := #[s, x], argTypes := #[t, t] })
    (base : Nat) (e : TypeId) (i : TypeInfo) (z : Value) (size bytes : Nat) (ht : P.underlying t = some (.slice e)) (hi : P.info? e = some i) (hz : i.zero = some z)
    (hsize : i.size = size) (hby : i.bytes = bytes) (hzs : z.cells.size = size) (hsz : 0 < size)
    (v : Value) (n : Nat) (xs : List Value) (hs : a.eval s = v) (hown : w.ownsRow base e size v n xs)
    (B : Nat) (A : Option Addr) (m c : Nat) (news : List Value) (hx : a.eval x = .slice A m c) (hr : Reads w B size A m news) (h1 : ∀ u ∈ news, u.oneCell' = true)
    (h63 : n + m ≤ maxLen) (hbytes : (n + m) * bytes ≤ 140737488355328) (hbase : base ≤ w.heap.size)
    (h : ∀ v' w', w'.ownsRow base e size v' (n + m) (xs ++ news) → w.grownBy w' v.ownBlock → (v'.ownBlock = v.ownBlock ∨ v'.ownBlock = some w.heap.size) → wpList P ops Q rest (a.put o.dst v') w') : wpList P ops Q (o :: rest) a w :=
  wpList_plain hgd fun _ hK => wp_append_any w s x t ho base e i z size bytes ht hi hz hsize hby hzs hsz v n xs hs hown B A m c news hx hr h1 h63 hbytes hbase fun v' w' h2 h3 h4 => hK _ _ (h v' w' h2 h3 h4)

theorem step_append_any {ops : Array Oper} {o : Oper} {a : Act} {K : Act → World → Prop} {Q : Exit → Act → World → Prop} {E : Prop} (hgd : o.guard = none) (s x : Operand) (t : TypeId)
    (ho : o.op = .call { callee := .builtin .append, args := #[s, x], argTypes := #[t, t] })
    (base : Nat) (e : TypeId) (i : TypeInfo) (z : Value) (size bytes : Nat) (ht : P.underlying t = some (.slice e)) (hi : P.info? e = some i) (hz : i.zero = some z)
    (hsize : i.size = size) (hby : i.bytes = bytes) (hzs : z.cells.size = size) (hsz : 0 < size)
    (v : Value) (n : Nat) (xs : List Value) (hs : a.eval s = v) (hown : w.ownsRow base e size v n xs)
    (B : Nat) (A : Option Addr) (m c : Nat) (news : List Value) (hx : a.eval x = .slice A m c) (hr : Reads w B size A m news) (h1 : ∀ u ∈ news, u.oneCell' = true)
    (h63 : n + m ≤ maxLen) (hbytes : (n + m) * bytes ≤ 140737488355328) (hbase : base ≤ w.heap.size)
    (h : ∀ v' w', w'.ownsRow base e size v' (n + m) (xs ++ news) → w.grownBy w' v.ownBlock → (v'.ownBlock = v.ownBlock ∨ v'.ownBlock = some w.heap.size) → K (a.put o.dst v') w') :
    if Region.wanted o (yielded ops a.tmps) = true then Oper.wp P o a w K Q else E := by
  have hw : Region.wanted o (yielded ops a.tmps) = true := by simp [Region.wanted, hgd]
  rw [if_pos hw]
  exact wp_append_any w s x t ho base e i z size bytes ht hi hz hsize hby hzs hsz v n xs hs hown B A m c news hx hr h1 h63 hbytes hbase h
end
end Go.Proofs.Ytbpgbihcihnieaa

namespace Go.Proofs.Ytbpgbihcihnieaa

def be4 (m : Nat) : List UInt8 := [UInt8.ofNat (m / 16777216), UInt8.ofNat (m / 65536), UInt8.ofNat (m / 256), UInt8.ofNat m]
theorem be4_length (m : Nat) : (be4 m).length = 4 := rfl

/-- The bytes that a list's members take up, with their lengths. -/
def bulk : List (List UInt8) → Nat
  | [] => 0
  | b :: l => 4 + b.length + bulk l
theorem bulk_append (l m : List (List UInt8)) : bulk (l ++ m) = bulk l + bulk m := by
  induction l with
  | nil => simp [bulk]
  | cons a l ih => simp only [List.cons_append, bulk, ih]; omega
theorem bulk_take_succ (l : List (List UInt8)) (k : Nat) (h : k < l.length) : bulk (l.take (k + 1)) = bulk (l.take k) + (4 + l[k].length) := by
  rw [List.take_succ_eq_append_getElem h, bulk_append]; simp [bulk]
theorem bulk_take_le (l : List (List UInt8)) (k : Nat) : bulk (l.take k) ≤ bulk l := by
  have := bulk_append (l.take k) (l.drop k)
  rw [List.take_append_drop] at this; omega
theorem bulk_ge (l : List (List UInt8)) : 4 * l.length ≤ bulk l := by
  induction l with
  | nil => simp [bulk]
  | cons a l ih => simp only [List.length_cons, bulk]; omega
def encOK (l : List (List UInt8)) : Bool := decide (l.length ≤ 65536) && decide (4 + bulk l ≤ 1048576)
def members : List (List UInt8) → List UInt8
  | [] => []
  | b :: l => be4 b.length ++ b ++ members l
theorem members_append (l m : List (List UInt8)) : members (l ++ m) = members l ++ members m := by
  induction l with
  | nil => simp [members]
  | cons a l ih => simp [members, ih]
theorem members_take_succ (l : List (List UInt8)) (k : Nat) (h : k < l.length) : members (l.take (k + 1)) = members (l.take k) ++ be4 l[k].length ++ l[k] := by
  rw [List.take_succ_eq_append_getElem h, members_append]; simp [members]
theorem members_length (l : List (List UInt8)) : (members l).length = bulk l := by
  induction l with
  | nil => rfl
  | cons a l ih => simp only [members, List.length_append, be4_length, ih, bulk]
def encB (l : List (List UInt8)) : List UInt8 := if encOK l then be4 l.length ++ members l else []
def encE (l : List (List UInt8)) : Int := if encOK l then 0 else 6
theorem encB_ok {l : List (List UInt8)} (h : encOK l = true) : encB l = be4 l.length ++ members l := by simp [encB, h]
theorem encB_no {l : List (List UInt8)} (h : encOK l = false) : encB l = [] := by simp [encB, h]
theorem encE_ok {l : List (List UInt8)} (h : encOK l = true) : encE l = 0 := by simp [encE, h]
theorem encE_no {l : List (List UInt8)} (h : encOK l = false) : encE l = 6 := by simp [encE, h]
theorem encOK_of {l : List (List UInt8)} (h : l.length ≤ 65536) (h' : 4 + bulk l ≤ 1048576) : encOK l = true := by simp [encOK, h, h']
theorem encOK_no1 {l : List (List UInt8)} (h : 65536 < l.length) : encOK l = false := by simp [encOK]; omega
theorem encOK_no2 {l : List (List UInt8)} (h : 1048576 < 4 + bulk l) : encOK l = false := by simp [encOK]; omega

/-- The number of the first 4 bytes. -/
def num4 (l : List UInt8) : Nat := (l.getD 0 0).toNat * 16777216 + (l.getD 1 0).toNat * 65536 + (l.getD 2 0).toNat * 256 + (l.getD 3 0).toNat
theorem num4_lt (l : List UInt8) : num4 l < 4294967296 := by
  unfold num4
  have h0 := (l.getD 0 0).toNat_lt; have h1 := (l.getD 1 0).toNat_lt; have h2 := (l.getD 2 0).toNat_lt; have h3 := (l.getD 3 0).toNat_lt
  omega
theorem num4_be4 (m : Nat) (l : List UInt8) (hm : m < 4294967296) : num4 (be4 m ++ l) = m := by
  simp [num4, be4]
  omega
theorem be4_num4 (l : List UInt8) (h : 4 ≤ l.length) : be4 (num4 l) = l.take 4 := by
  match l, h with
  | a :: b :: c :: d :: r, _ =>
    have h0 := a.toNat_lt; have h1 := b.toNat_lt; have h2 := c.toNat_lt; have h3 := d.toNat_lt
    simp only [be4, num4, List.getD_cons_zero, List.getD_cons_succ, List.take_succ_cons, List.take_zero, List.cons.injEq, and_true]
    have e : ∀ (x : Nat) (y : UInt8), x % 256 = y.toNat → UInt8.ofNat x = y := by
      intro x y hxy
      apply UInt8.toNat_inj.1
      simpa using hxy
    exact ⟨e _ _ (by omega), e _ _ (by omega), e _ _ (by omega), e _ _ (by omega)⟩
/-- One member off the bytes. -/
def one (r : List UInt8) : Option (List UInt8 × List UInt8) :=
  if r.length < 4 then none else if r.length - 4 < num4 r then none else some ((r.drop 4).take (num4 r), (r.drop 4).drop (num4 r))
theorem one_no1 {r : List UInt8} (h : r.length < 4) : one r = none := by simp [one, h]
theorem one_no2 {r : List UInt8} (h : r.length - 4 < num4 r) : one r = none := by
  unfold one
  by_cases h4 : r.length < 4
  · rw [if_pos h4]
  · rw [if_neg h4, if_pos h]
theorem one_yes {r : List UInt8} (h : 4 ≤ r.length) (h2 : num4 r ≤ r.length - 4) : one r = some ((r.drop 4).take (num4 r), (r.drop 4).drop (num4 r)) := by
  unfold one; rw [if_neg (by omega), if_neg (by omega)]
/-- k members off the bytes, from the left. -/
def memI : Nat → List UInt8 → Option (List (List UInt8) × List UInt8)
  | 0, r => some ([], r)
  | k + 1, r => (memI k r).bind fun p => (one p.2).map fun q => (p.1 ++ [q.1], q.2)
theorem memI_succ {k : Nat} {r r' x r'' : List UInt8} {ls : List (List UInt8)} (h : memI k r = some (ls, r')) (h1 : one r' = some (x, r'')) : memI (k + 1) r = some (ls ++ [x], r'') := by
  simp [memI, h, h1]
theorem memI_fail {k n : Nat} {r r' : List UInt8} {ls : List (List UInt8)} (h : memI k r = some (ls, r')) (h1 : one r' = none) (hn : k < n) : memI n r = none := by
  have h2 : memI (k + 1) r = none := by simp [memI, h, h1]
  have : ∀ d, memI (k + 1 + d) r = none := by
    intro d
    induction d with
    | zero => exact h2
    | succ d ih => rw [show k + 1 + (d + 1) = (k + 1 + d) + 1 from by omega, memI, ih]; rfl
  rw [show n = k + 1 + (n - (k + 1)) from by omega]
  exact this _
theorem memI_length {k : Nat} {r r' : List UInt8} {ls : List (List UInt8)} (h : memI k r = some (ls, r')) : ls.length = k := by
  induction k generalizing ls r' with
  | zero => simp [memI] at h; simp [← h.1]
  | succ k ih =>
    simp only [memI, Option.bind_eq_some_iff, Option.map_eq_some_iff, Prod.exists, Prod.mk.injEq] at h
    obtain ⟨ls', r1, h1, x, r2, _, rfl, _⟩ := h
    simp [ih h1]
theorem memI_drop {k : Nat} {r r' : List UInt8} {ls : List (List UInt8)} (h : memI k r = some (ls, r')) : members ls ++ r' = r := by
  induction k generalizing ls r' with
  | zero =>
    simp [memI] at h
    obtain ⟨rfl, rfl⟩ := h
    rfl
  | succ k ih =>
    simp only [memI, Option.bind_eq_some_iff, Option.map_eq_some_iff, Prod.exists, Prod.mk.injEq] at h
    obtain ⟨ls', r1, h1, x, r2, h2, rfl, rfl⟩ := h
    have := ih h1
    rw [← this, members_append, List.append_assoc]
    congr 1
    unfold one at h2
    split at h2
    · cases h2
    · rename_i h4
      split at h2
      · cases h2
      · rename_i h5
        simp only [Option.some.injEq, Prod.mk.injEq] at h2
        obtain ⟨rfl, rfl⟩ := h2
        have hl : ((r1.drop 4).take (num4 r1)).length = num4 r1 := by rw [List.length_take, List.length_drop]; omega
        simp only [members, List.append_nil]
        rw [hl, be4_num4 _ (by omega), List.append_assoc, List.take_append_drop, List.take_append_drop]
theorem memI_members (ls : List (List UInt8)) (r : List UInt8) (hb : ∀ l ∈ ls, l.length < 4294967296) : memI ls.length (members ls ++ r) = some (ls, r) := by
  have gen : ∀ (k : Nat), k ≤ ls.length → memI k (members ls ++ r) = some (ls.take k, members (ls.drop k) ++ r) := by
    intro k
    induction k with
    | zero => intro _; rfl
    | succ k ih =>
      intro hk
      have hlt : k < ls.length := by omega
      have h1 := ih (by omega)
      have hd : ls.drop k = ls[k] :: ls.drop (k + 1) := List.drop_eq_getElem_cons hlt
      have hm : members (ls.drop k) ++ r = be4 ls[k].length ++ (ls[k] ++ (members (ls.drop (k + 1)) ++ r)) := by rw [hd]; simp [members]
      have hx := hb ls[k] (List.getElem_mem hlt)
      have hn : num4 (members (ls.drop k) ++ r) = ls[k].length := by rw [hm]; exact num4_be4 _ _ hx
      have hdr : (members (ls.drop k) ++ r).drop 4 = ls[k] ++ (members (ls.drop (k + 1)) ++ r) := by rw [hm]; rfl
      have hlen : (members (ls.drop k) ++ r).length = 4 + ls[k].length + (members (ls.drop (k + 1)) ++ r).length := by rw [hm]; simp [be4_length]; omega
      refine (memI_succ h1 (one_yes (by omega) (by omega))).trans ?_
      rw [hn, hdr, List.take_left, List.drop_left, List.take_succ_eq_append_getElem hlt]
  have := gen ls.length (Nat.le_refl _)
  rw [this, List.take_length, List.drop_length]
  rfl
def decV (l : List UInt8) : List (List UInt8) :=
  if 1048576 < l.length then [] else if l.length < 4 then [] else if 65536 < num4 l then [] else
    match memI (num4 l) (l.drop 4) with
    | some (ls, []) => ls
    | _ => []
def decE (l : List UInt8) : Int :=
  if 1048576 < l.length then 6 else if l.length < 4 then 2 else if 65536 < num4 l then 2 else
    match memI (num4 l) (l.drop 4) with
    | some (_, []) => 0
    | _ => 2
theorem dec_large {l : List UInt8} (h : 1048576 < l.length) : decV l = [] ∧ decE l = 6 := by simp [decV, decE, h]
theorem dec_short {l : List UInt8} (h : ¬ 1048576 < l.length) (h4 : l.length < 4) : decV l = [] ∧ decE l = 2 := by simp [decV, decE, h, h4]
theorem dec_many {l : List UInt8} (h : ¬ 1048576 < l.length) (h4 : ¬ l.length < 4) (hn : 65536 < num4 l) : decV l = [] ∧ decE l = 2 := by simp [decV, decE, h, h4, hn]
theorem dec_fail {l : List UInt8} (h : ¬ 1048576 < l.length) (h4 : ¬ l.length < 4) (hn : ¬ 65536 < num4 l) (hm : memI (num4 l) (l.drop 4) = none) : decV l = [] ∧ decE l = 2 := by simp [decV, decE, h, h4, hn, hm]
theorem dec_rest {l r : List UInt8} {ls : List (List UInt8)} (h : ¬ 1048576 < l.length) (h4 : ¬ l.length < 4) (hn : ¬ 65536 < num4 l) (hm : memI (num4 l) (l.drop 4) = some (ls, r)) (hr : 0 < r.length) : decV l = [] ∧ decE l = 2 := by
  cases r with
  | nil => simp at hr
  | cons a r => simp [decV, decE, h, h4, hn, hm]
theorem dec_ok {l r : List UInt8} {ls : List (List UInt8)} (h : ¬ 1048576 < l.length) (h4 : ¬ l.length < 4) (hn : ¬ 65536 < num4 l) (hm : memI (num4 l) (l.drop 4) = some (ls, r)) (hr : r.length = 0) : decV l = ls ∧ decE l = 0 := by
  have : r = [] := List.eq_nil_of_length_eq_zero hr
  subst this
  simp [decV, decE, h, h4, hn, hm]
theorem dec_cases (l : List UInt8) : (decE l = 0 ∧ ∃ ls, decV l = ls ∧ l = be4 ls.length ++ members ls ∧ ls.length ≤ 65536 ∧ l.length ≤ 1048576) ∨ ((decE l = 2 ∨ decE l = 6) ∧ decV l = []) := by
  by_cases h : 1048576 < l.length
  · exact .inr ⟨.inr (dec_large h).2, (dec_large h).1⟩
  by_cases h4 : l.length < 4
  · exact .inr ⟨.inl (dec_short h h4).2, (dec_short h h4).1⟩
  by_cases hn : 65536 < num4 l
  · exact .inr ⟨.inl (dec_many h h4 hn).2, (dec_many h h4 hn).1⟩
  cases hm : memI (num4 l) (l.drop 4) with
  | none => exact .inr ⟨.inl (dec_fail h h4 hn hm).2, (dec_fail h h4 hn hm).1⟩
  | some p =>
    obtain ⟨ls, r⟩ := p
    by_cases hr : 0 < r.length
    · exact .inr ⟨.inl (dec_rest h h4 hn hm hr).2, (dec_rest h h4 hn hm hr).1⟩
    · have hr0 : r.length = 0 := by omega
      have hk := memI_length hm
      have hd := memI_drop hm
      have : r = [] := List.eq_nil_of_length_eq_zero hr0
      subst this
      refine .inl ⟨(dec_ok h h4 hn hm hr0).2, ls, (dec_ok h h4 hn hm hr0).1, ?_, by omega, by omega⟩
      rw [hk, be4_num4 _ (by omega)]
      rw [List.append_nil] at hd
      rw [hd, List.take_append_drop]
theorem enc_dec {ls : List (List UInt8)} (h : encOK ls = true) : decV (encB ls) = ls ∧ decE (encB ls) = 0 := by
  have h1 : ls.length ≤ 65536 ∧ 4 + bulk ls ≤ 1048576 := by simpa [encOK] using h
  have hlen : (encB ls).length = 4 + bulk ls := by rw [encB_ok h, List.length_append, be4_length, members_length]
  have hn : num4 (encB ls) = ls.length := by rw [encB_ok h]; exact num4_be4 _ _ (by omega)
  have hd : (encB ls).drop 4 = members ls ++ [] := by rw [encB_ok h]; simp [be4]
  have hb : ∀ l ∈ ls, l.length < 4294967296 := by
    intro l hl
    have : ∀ (ls : List (List UInt8)), l ∈ ls → l.length ≤ bulk ls := by
      intro ls
      induction ls with
      | nil => intro h; cases h
      | cons a ls ih =>
        intro h
        simp only [bulk]
        rcases List.mem_cons.1 h with rfl | h
        · omega
        · have := ih h; omega
    have := this ls hl; omega
  exact dec_ok (r := []) (by omega) (by omega) (by omega) (by rw [hn, hd]; exact memI_members ls [] hb) rfl
theorem dec_enc {l : List UInt8} (h : decE l = 0) : encOK (decV l) = true ∧ encB (decV l) = l := by
  rcases dec_cases l with ⟨_, ls, h1, h2, h3, h4⟩ | ⟨h1, _⟩
  · rw [h1]
    have hok : encOK ls = true := encOK_of h3 (by rw [h2, List.length_append, be4_length, members_length] at h4; exact h4)
    exact ⟨hok, by rw [encB_ok hok, ← h2]⟩
  · rcases h1 with h1 | h1 <;> rw [h1] at h <;> cases h

/-- The bytes of which accounts are made. -/
def accB (c : UInt8) : Bool := (decide (97 ≤ c.toNat) && decide (c.toNat ≤ 122)) || (decide (48 ≤ c.toNat) && decide (c.toNat ≤ 57)) || c.toNat == 46 || c.toNat == 95 || c.toNat == 45
def accOK (l : List UInt8) : Bool := l.all accB && decide (1 ≤ l.length) && decide (l.length ≤ 32)
def okR (x : Nat) : Prop := (97 ≤ x ∧ x ≤ 122) ∨ (48 ≤ x ∧ x ≤ 57) ∨ x = 46 ∨ x = 95 ∨ x = 45
theorem accB_yes {c : UInt8} (h : okR c.toNat) : accB c = true := by
  unfold okR at h; simp [accB]; omega
theorem accB_no {c : UInt8} (h : ¬ okR c.toNat) : accB c = false := by
  unfold okR at h; simp [accB]; omega
theorem okR_lt {x : Nat} (h : okR x) : x < 128 := by unfold okR at h; omega
theorem accOK_no {l : List UInt8} {k : Nat} (hk : k < l.length) (h : accB l[k] = false) : accOK l = false := by
  have : l.all accB = false := by
    rw [List.all_eq_false]
    exact ⟨l[k], List.getElem_mem hk, by simp [h]⟩
  simp [accOK, this]
theorem accOK_end {l : List UInt8} (h : ∀ (k : Nat) (hk : k < l.length), accB l[k] = true) : accOK l = (decide (1 ≤ l.length) && decide (l.length ≤ 32)) := by
  have : l.all accB = true := by
    rw [List.all_eq_true]
    intro x hx
    obtain ⟨k, hk, rfl⟩ := List.getElem_of_mem hx
    exact h k hk
  simp [accOK, this]
end Go.Proofs.Ytbpgbihcihnieaa

namespace Go.Proofs.Ytbpgbihcihnieaa
open Go.RowKit
theorem u8info : (Try.prog.info? 5).map (fun i => (i.zero, i.size, i.bytes)) = some (some (.int .u8 0), 1, 1) := by kernel_rfl

/-- v is a slice of bytes that the call owns (from block 'base' on); its bytes are l. -/
def Own8 (w : World) (base : Nat) (v : Value) (l : List UInt8) : Prop := w.ownsRow base 5 1 v l.length (bvs l)

theorem Own8.alloc {w : World} {base : Nat} {v : Value} {l : List UInt8} (h : Own8 w base v l) (o : Obj) : Own8 (w.alloc o) base v l := World.ownsRow.alloc h o

theorem app8 {ops : Array Oper} {rest : List Oper} {o : Oper} {a : Act} {w : World} {Q : Exit → Act → World → Prop} {s x : Operand} {base B : Nat} {v : Value} {l : List UInt8} {A : Option Addr} {m c : Nat} {news : List UInt8}
    (hgd : o.guard = none) (ho : o.op = .call { callee := .builtin .append, args := #[s, x], argTypes := #[24, 24] })
    (hs : a.eval s = v) (hx : a.eval x = .slice A m c) (hown : Own8 w base v l) (hr : Reads w B 1 A m (bvs news)) (hbytes : l.length + m ≤ 140737488355328) (hbase : base ≤ w.heap.size)
    (h : ∀ v' w', Own8 w' base v' (l ++ news) → w.grownBy w' v.ownBlock → (v'.ownBlock = v.ownBlock ∨ v'.ownBlock = some w.heap.size) → wpList Try.prog ops Q rest (a.put o.dst v') w') : wpList Try.prog ops Q (o :: rest) a w := by
  obtain ⟨i0, hi0, hz0, hz1, hz2⟩ := info_parts u8info
  have hm : m = news.length := by have := hr.1; rw [bvs_length] at this; omega
  subst hm
  refine wpList_append_any w hgd s x _ ho base 5 i0 _ 1 1 Try.underlying24 hi0 hz0 hz1 hz2 rfl (by omega) v l.length (bvs l) hs hown B A _ c (bvs news) hx hr (bvs_one _) (by simp only [maxLen]; omega) (by omega) hbase ?_
  intro v' w' h1 h2 h3
  refine h v' w' ?_ h2 h3
  unfold Own8
  rw [List.length_append, bvs_append]
  exact h1
theorem Reads.bytes {w : World} {B n : Nat} {A : Option Addr} {l : List UInt8} (h : Reads w B 1 A n (bvs l)) (h0 : 0 < n) : ∃ b off, A = some ⟨b, off, none⟩ ∧ b < B ∧ ∀ k, k < n → w.cell? ⟨b, off + k, none⟩ = some (.int .u8 ((l.getD k 0).toNat : Int)) := by
  obtain ⟨b, off, _, rfl, hb, _, _⟩ := h.at_ h0
  refine ⟨b, off, rfl, hb, fun k hk => ?_⟩
  obtain ⟨b', off', u, he, _, hu, hc⟩ := h.at_ hk
  cases he
  have hl : k < l.length := by have := h.1; rw [bvs_length] at this; omega
  rw [hc]
  simp only [bvs, List.getElem?_map, List.getElem?_eq_getElem hl, Option.map_some, Option.some.injEq] at hu
  rw [← hu]
  simp [bv, List.getD, List.getElem?_eq_getElem hl]
theorem reads_new (w : World) (cs : Array Value) (t : TypeId) (n : Nat) (hn : cs.size = n) : Reads (w.alloc (.cells cs t)) (w.heap.size + 1) 1 (some ⟨w.heap.size, 0, none⟩) n cs.toList := by
  subst hn
  refine ⟨by simp, fun _ => ⟨_, rfl, by simp, fun j u hu => ?_⟩⟩
  have hj : j < cs.size := by
    have := (List.getElem?_eq_some_iff.1 hu).1
    simpa using this
  have hadd : (⟨w.heap.size, 0, none⟩ : Addr).add j = ⟨w.heap.size, j, none⟩ := by unfold Addr.add; split <;> simp_all
  rw [hadd, cell_of_row _ w.heap.size j cs t (0, 0) (heap_alloc_new w _)]
  simpa using hu

theorem be4_cells (m : Nat) (hm : m < 4294967296) : bvs (be4 m) = [.int .u8 ((m : Int) / 16777216), .int .u8 ((m : Int) / 65536 % 256), .int .u8 ((m : Int) / 256 % 256), .int .u8 ((m : Int) % 256)] := by
  simp [bvs, be4, bv]
  omega

/-- The slice '.slice A ls.length c' is a list of byte slices that read as ls. -/
def Lists (w : World) (B : Nat) (A : Option Addr) (ls : List (List UInt8)) : Prop :=
  ∃ vs : List Value, Reads w B 1 A ls.length vs ∧ ∀ (i : Nat) (h : i < ls.length), ∃ A' c', vs[i]? = some (.slice A' ls[i].length c') ∧ ls[i].length ≤ c' ∧ Reads w B 1 A' ls[i].length (bvs ls[i])
theorem Lists.at_ {w : World} {B : Nat} {A : Option Addr} {ls : List (List UInt8)} (h : Lists w B A ls) (k : Nat) (hk : k < ls.length) :
    ∃ l b off A' c', Hid (ls[k] = l) ∧ A = some ⟨b, off, none⟩ ∧ b < B ∧ w.cell? ⟨b, off + k, none⟩ = some (.slice A' l.length c') ∧ l.length ≤ c' ∧ Reads w B 1 A' l.length (bvs l) := by
  obtain ⟨vs, hr, hi⟩ := h
  obtain ⟨A', c', hv, hle, hr'⟩ := hi k hk
  obtain ⟨b, off, u, rfl, hb, hu, hc⟩ := hr.at_ hk
  rw [hu] at hv; cases hv
  exact ⟨_, b, off, A', c', rfl, rfl, hb, hc, hle, hr'⟩
theorem Lists.below {w w' : World} {B : Nat} {A : Option Addr} {ls : List (List UInt8)} (h : Lists w B A ls) (hb : Below B w w') : Lists w' B A ls := by
  obtain ⟨vs, hr, hi⟩ := h
  refine ⟨vs, hr.below hb, fun i hlt => ?_⟩
  obtain ⟨A', c', h1, h2, h3⟩ := hi i hlt
  exact ⟨A', c', h1, h2, h3.below hb⟩
theorem Lists.more {w : World} {B B' : Nat} {A : Option Addr} {ls : List (List UInt8)} (h : Lists w B A ls) (hB : B ≤ B') : Lists w B' A ls := by
  obtain ⟨vs, hr, hi⟩ := h
  refine ⟨vs, hr.more hB, fun i hlt => ?_⟩
  obtain ⟨A', c', h1, h2, h3⟩ := hi i hlt
  exact ⟨A', c', h1, h2, h3.more hB⟩
theorem Lists.at_b {w w' : World} {B : Nat} {A : Option Addr} {ls : List (List UInt8)} (h : Lists w B A ls) (hbel : Below B w w') (k : Nat) (hk : k < ls.length) :
    ∃ l b off A' c', Hid (ls[k] = l) ∧ A = some ⟨b, off, none⟩ ∧ b < B ∧ w'.cell? ⟨b, off + k, none⟩ = some (.slice A' l.length c') ∧ l.length ≤ c' ∧ Reads w B 1 A' l.length (bvs l) := by
  obtain ⟨l, b, off, A', c', h1, h2, h3, h4, h5, h6⟩ := h.at_ k hk
  exact ⟨l, b, off, A', c', h1, h2, h3, (hbel.cell (p := ⟨b, off + k, none⟩) h3).trans h4, h5, h6⟩
theorem own8_nil (w : World) (base : Nat) : Own8 w base (.slice none 0 0) [] := World.ownsRow_nil w base _ 1
theorem below_own8 {a w w' : World} {v : Value} {l : List UInt8} (h : Below a.heap.size a w) (ho : Own8 w a.heap.size v l) (hg : w.grownBy w' v.ownBlock) : Below a.heap.size a w' :=
  h.grown hg h.size (fun k hk => (World.ownsRow.lt ho k hk).1)
theorem below_none {a w w' : World} (h : Below a.heap.size a w) (hg : w.grownBy w' none) : Below a.heap.size a w' := h.grown hg h.size (fun k hk => by cases hk)
theorem make8 {ops : Array Oper} {rest : List Oper} {o : Oper} {a : Act} {w : World} {Q : Exit → Act → World → Prop} {l c : Operand} {base n : Nat} {kl kc : IntKind} {C : Int}
    (hgd : o.guard = none) (ho : o.op = Op.makeSlice 24 l c) (hl : a.eval l = .int kl 0) (hc : a.eval c = .int kc C) (hC : C = (n : Int)) (hn : n ≤ 140737488355328) (hb : base ≤ w.heap.size)
    (h : ∀ w', Own8 w' base (.slice (some ⟨w.heap.size, 0, none⟩) 0 n) [] → w.grownBy w' none → wpList Try.prog ops Q rest (a.put o.dst (.slice (some ⟨w.heap.size, 0, none⟩) 0 n)) w') : wpList Try.prog ops Q (o :: rest) a w := by
  obtain ⟨i0, hi0, hz0, hz1, hz2⟩ := info_parts u8info
  exact wpList_make_own w hgd l c _ ho base 5 i0 _ 1 Try.underlying24 hi0 hz0 hz1 kl kc C n hl hc hC (by rw [hz2]; omega) (by simp only [maxLen]; omega) hb h
end Go.Proofs.Ytbpgbihcihnieaa

namespace Go.Proofs.Ytbpgbihcihnieaa
open Go.RowKit
theorem slinfo : (Try.prog.info? 24).map (fun i => (i.zero, i.size, i.bytes)) = some (some (.slice none 0 0), 1, 24) := by kernel_rfl

theorem own8_form {w : World} {base : Nat} {v : Value} {l : List UInt8} (h : Own8 w base v l) : ∃ A c, v = .slice A l.length c ∧ l.length ≤ c ∧ Reads w w.heap.size 1 A l.length (bvs l) := by
  have h0 := h
  obtain ⟨hl, h | ⟨g, cap, cur, rfl, hb, hh, hle, _⟩⟩ := h
  · obtain ⟨rfl, hn⟩ := h
    have : l = [] := List.eq_nil_of_length_eq_zero hn
    subst this
    exact ⟨none, 0, rfl, by simp, Reads.none_⟩
  · exact ⟨_, cap, rfl, hle, Reads.of_own h0⟩
theorem own8_form' {w : World} {base n : Nat} {v : Value} {l : List UInt8} (h : Own8 w base v l) (hl : l.length = n) : ∃ A c, v = .slice A n c ∧ n ≤ c ∧ Reads w w.heap.size 1 A n (bvs l) := by
  subst hl; exact own8_form h
theorem Reads.via {w wr w5 : World} {B size n : Nat} {A : Option Addr} {xs : List Value} (h : Reads wr B size A n xs) (h1 : Below B w wr) (h2 : Below B w w5) : Reads w5 B size A n xs := h.keep fun _ hp => (h2.cell hp).trans (h1.cell hp).symm
theorem own8_keep {w w' : World} {base : Nat} {v : Value} {l : List UInt8} {row : Option Nat} (h : Own8 w base v l) (hg : w.grownBy w' row) (hne : v.ownBlock = none ∨ v.ownBlock ≠ row) : Own8 w' base v l := World.ownsRow.kept h hg hne
theorem own8_lt {w : World} {base : Nat} {v : Value} {l : List UInt8} (h : Own8 w base v l) : ∀ k, v.ownBlock = some k → base ≤ k ∧ k < w.heap.size := World.ownsRow.lt h
theorem own8_base {w : World} {base base' : Nat} {v : Value} {l : List UInt8} (h : Own8 w base v l) (hb : base' ≤ base) : Own8 w base' v l := by
  obtain ⟨hl, h | ⟨g, cap, cur, h1, h2, h3⟩⟩ := h
  · exact ⟨hl, .inl h⟩
  · exact ⟨hl, .inr ⟨g, cap, cur, h1, by omega, h3⟩⟩

/-- What 'Below' says of all that was there, as 'grownBy'. -/
theorem grown_of_below {w w' : World} (h : Below w.heap.size w w') (row : Option Nat) : w.grownBy w' row := ⟨h.os, h.tape, h.output, h.size, fun k hk _ => h.block k hk⟩
theorem own8_below {w w' : World} {base : Nat} {v : Value} {l : List UInt8} (h : Own8 w base v l) (hb : Below w.heap.size w w') : Own8 w' base v l := own8_keep h (grown_of_below hb none) (by cases v.ownBlock <;> simp)

/-- v is a [][]byte of the call's own; member i is a []byte of the call's own, that reads ls[i]; all rows are apart. -/
structure OwnLL (w : World) (base : Nat) (v : Value) (ls : List (List UInt8)) (vs : List Value) : Prop where
  row : w.ownsRow base 24 1 v ls.length vs
  each : ∀ (i : Nat) (h : i < ls.length), ∃ u, vs[i]? = some u ∧ Own8 w base u ls[i] ∧ (u.ownBlock = none ∨ u.ownBlock ≠ v.ownBlock)
  apart : ∀ (i j : Nat) (u u' : Value), i < j → vs[i]? = some u → vs[j]? = some u' → u.ownBlock = none ∨ u.ownBlock ≠ u'.ownBlock
def OwnL (w : World) (base : Nat) (v : Value) (ls : List (List UInt8)) : Prop := ∃ vs, OwnLL w base v ls vs

theorem OwnL.nil (w : World) (base : Nat) : OwnL w base (.slice none 0 0) [] :=
  ⟨[], World.ownsRow_nil w base _ 1, fun i h => by simp at h, fun i j u u' _ h => by simp at h⟩
theorem OwnL.lists {w : World} {base : Nat} {v : Value} {ls : List (List UInt8)} (h : OwnL w base v ls) : ∃ A c, v = .slice A ls.length c ∧ ls.length ≤ c ∧ Lists w w.heap.size A ls := by
  obtain ⟨vs, h⟩ := h
  have hr := h.row
  obtain ⟨hl, h0 | ⟨g, cap, cur, rfl, hb, hh, hle, _⟩⟩ := h.row
  · obtain ⟨rfl, hn⟩ := h0
    have : ls = [] := List.eq_nil_of_length_eq_zero hn
    subst this
    exact ⟨none, 0, rfl, by simp, [], Reads.none_, fun i hi => by simp at hi⟩
  · refine ⟨_, cap, rfl, hle, vs, Reads.of_own hr, fun i hi => ?_⟩
    obtain ⟨u, hu, ho, _⟩ := h.each i hi
    obtain ⟨A, c, rfl, hc, hr⟩ := own8_form ho
    exact ⟨A, c, hu, hc, hr⟩
theorem OwnL.below {w w' : World} {base : Nat} {v : Value} {ls : List (List UInt8)} (h : OwnL w base v ls) (hb : Below w.heap.size w w') : OwnL w' base v ls := by
  obtain ⟨vs, h⟩ := h
  refine ⟨vs, World.ownsRow.kept h.row (grown_of_below hb none) (by cases v.ownBlock <;> simp), fun i hi => ?_, h.apart⟩
  obtain ⟨u, hu, ho, hne⟩ := h.each i hi
  exact ⟨u, hu, own8_below ho hb, hne⟩
theorem OwnL.base_ {w : World} {base base' : Nat} {v : Value} {ls : List (List UInt8)} (h : OwnL w base v ls) (hb : base' ≤ base) : OwnL w base' v ls := by
  obtain ⟨vs, h⟩ := h
  refine ⟨vs, ?_, fun i hi => ?_, h.apart⟩
  · obtain ⟨hl, h | ⟨g, cap, cur, h1, h2, h3⟩⟩ := h.row
    · exact ⟨hl, .inl h⟩
    · exact ⟨hl, .inr ⟨g, cap, cur, h1, by omega, h3⟩⟩
  · obtain ⟨u, hu, ho, hne⟩ := h.each i hi
    exact ⟨u, hu, own8_base ho hb, hne⟩
theorem oneCell_own8 {w : World} {base : Nat} {v : Value} {l : List UInt8} (h : Own8 w base v l) : v.oneCell' = true := by
  obtain ⟨A, c, rfl, _⟩ := own8_form h
  rfl
theorem below_ownL {a w w' : World} {v : Value} {ls : List (List UInt8)} (h : Below a.heap.size a w) (ho : OwnL w a.heap.size v ls) (hg : w.grownBy w' v.ownBlock) : Below a.heap.size a w' := by
  obtain ⟨vs, ho⟩ := ho
  exact h.grown hg h.size (fun k hk => (World.ownsRow.lt ho.row k hk).1)

/-- 'list = append(list, x)': x lies in a new block of one cell; x was made since wr. -/
theorem appL {ops : Array Oper} {rest : List Oper} {o : Oper} {a : Act} {w wr : World} {Q : Exit → Act → World → Prop} {s x : Operand} {base g c : Nat} {v u : Value} {ls : List (List UInt8)} {l : List UInt8}
    (hgd : o.guard = none) (ho : o.op = .call { callee := .builtin .append, args := #[s, x], argTypes := #[22, 22] })
    (hs : a.eval s = v) (hx : a.eval x = .slice (some ⟨g, 0, none⟩) 1 c) (hown : OwnL wr base v ls) (hcell : w.cell? ⟨g, 0, none⟩ = some u) (hb : Below wr.heap.size wr w) (hu : Own8 w wr.heap.size u l)
    (hbytes : (ls.length + 1) * 24 ≤ 140737488355328) (hbase : base ≤ wr.heap.size)
    (h : ∀ v' w', OwnL w' base v' (ls ++ [l]) → w.grownBy w' v.ownBlock → wpList Try.prog ops Q rest (a.put o.dst v') w') : wpList Try.prog ops Q (o :: rest) a w := by
  obtain ⟨i0, hi0, hz0, hz1, hz2⟩ := info_parts slinfo
  obtain ⟨vs, hL⟩ := hown.below hb
  obtain ⟨vs0, hL0⟩ := hown
  refine wpList_append_any w hgd s x _ ho base 24 i0 _ 1 24 Try.underlying22 hi0 hz0 hz1 hz2 rfl (by omega) v ls.length vs hs hL.row (g + 1) (some ⟨g, 0, none⟩) 1 c [u] hx ?_ ?_ (by simp only [maxLen]; omega) (by omega) (Nat.le_trans hbase hb.size) ?_
  · refine ⟨rfl, fun _ => ⟨_, rfl, by simp, fun j y hy => ?_⟩⟩
    match j, hy with
    | 0, hy => simp at hy; subst hy; exact hcell
  · intro y hy
    simp at hy
    subst hy
    exact oneCell_own8 hu
  · intro v' w' h1 h2 h3
    refine h v' w' ⟨vs ++ [u], ?_, ?_, ?_⟩ h2
    · simpa using h1
    · have hvl : vs.length = ls.length := by have := hL.row.1; omega
      -- the new row's block is the old one, or new
      have hblk : ∀ k, v'.ownBlock = some k → (v.ownBlock = some k ∨ k = w.heap.size) := by
        intro k hk
        rcases h3 with h3 | h3
        · exact .inl (h3 ▸ hk)
        · rw [h3] at hk; injection hk with hk; exact .inr hk.symm
      have hvb : ∀ k, v.ownBlock = some k → k < wr.heap.size := fun k hk => (World.ownsRow.lt hL0.row k hk).2
      intro i hi
      by_cases hil : i < ls.length
      · obtain ⟨y, hy, hoy, hne⟩ := hL.each i hil
        refine ⟨y, by rw [List.getElem?_append_left (by omega)]; exact hy, ?_, ?_⟩
        · rw [List.getElem_append_left hil]
          exact own8_keep hoy h2 hne
        · cases hyb : y.ownBlock with
          | none => exact .inl rfl
          | some k =>
            refine .inr fun e => ?_
            rcases hblk k e.symm with h4 | h4
            · rw [hyb, h4] at hne; simp at hne
            · have := (own8_lt hoy k hyb).2; omega
      · have hie : i = ls.length := by simp at hi; omega
        subst hie
        refine ⟨u, by rw [← hvl]; simp, ?_, ?_⟩
        · simp only [List.getElem_append_right (Nat.le_refl _), Nat.sub_self, List.getElem_cons_zero]
          refine own8_base (own8_keep hu h2 ?_) hbase
          cases hub : u.ownBlock with
          | none => exact .inl rfl
          | some k =>
            refine .inr fun e => ?_
            have h5 := (own8_lt hu k hub).1
            have h6 := hvb k e.symm
            omega
        · cases hub : u.ownBlock with
          | none => exact .inl rfl
          | some k =>
            refine .inr fun e => ?_
            have h5 := own8_lt hu k hub
            rcases hblk k e.symm with h4 | h4
            · have := hvb k h4; omega
            · omega
    · have hvl : vs.length = ls.length := by have := hL.row.1; omega
      intro i j y y' hij hy hy'
      by_cases hj : j < vs.length
      · rw [List.getElem?_append_left (by omega)] at hy
        rw [List.getElem?_append_left hj] at hy'
        exact hL.apart i j y y' hij hy hy'
      · have hj' : j = vs.length := by
          have := (List.getElem?_eq_some_iff.1 hy').1
          simp at this; omega
        subst hj'
        rw [List.getElem?_append_left (by omega)] at hy
        have hy'' : y' = u := by simpa using hy'.symm
        subst hy''
        -- y is old: it was there at wr
        have hw0 : vs0[i]? = vs[i]? := by
          have h1 := hL0.row
          obtain ⟨q1, hq1 | ⟨g1, c1, cu1, e1, _, e2, _, _, _, e3⟩⟩ := hL0.row
          · have : i < ls.length := by omega
            omega
          · obtain ⟨q2, hq2 | ⟨g2, c2, cu2, f1, _, f2, _, _, _, f3⟩⟩ := hL.row
            · have : i < ls.length := by omega
              omega
            · rw [e1] at f1
              cases f1
              have hlt : g1 < wr.heap.size := (Array.getElem?_eq_some_iff.1 e2).1
              rw [hb.block g1 hlt, e2] at f2
              cases f2
              rw [← e3, ← f3]
        obtain ⟨y0, hy0, hoy, _⟩ := hL0.each i (by omega)
        rw [hw0, hy] at hy0
        cases hy0
        cases hyb : y.ownBlock with
        | none => exact .inl rfl
        | some k =>
          refine .inr fun e => ?_
          have h5 := (own8_lt hoy k hyb).2
          have h6 := (own8_lt hu k e.symm).1
          omega

theorem own8_zero (w : World) (base : Nat) (hb : base ≤ w.heap.size) : Own8 (w.alloc (.cells #[] 5)) base (.slice (some ⟨w.heap.size, 0, none⟩) 0 0) [] :=
  ⟨rfl, .inr ⟨w.heap.size, 0, #[], rfl, hb, heap_alloc_new w _, Nat.le_refl _, by simp [maxLen], rfl, rfl⟩⟩
theorem OwnL.len {w : World} {base n c : Nat} {A : Option Addr} {ls : List (List UInt8)} (h : OwnL w base (.slice A n c) ls) : n = ls.length := by
  obtain ⟨A', c', h1, _⟩ := h.lists
  cases h1; rfl
theorem OwnL.reads {w : World} {base n c : Nat} {A : Option Addr} {ls : List (List UInt8)} (h : OwnL w base (.slice A n c) ls) : Lists w w.heap.size A ls := by
  obtain ⟨A', c', h1, _, h2⟩ := h.lists
  cases h1
  exact h2
/-- A slice of bytes made a string. -/
theorem run_str8 {w : World} {B n : Nat} {A : Option Addr} {l : List UInt8} (hr : Reads w B 1 A n (bvs l)) (c : Nat) : (convert 24 9 (.slice A n c)).run Try.prog w = .ok (.string ⟨l.toArray⟩) w := by
  have hm : n = l.length := by have := hr.1; rw [bvs_length] at this; omega
  subst hm
  cases A with
  | none =>
    have hn : l = [] := by
      cases l with
      | nil => rfl
      | cons a l => obtain ⟨_, h, _⟩ := hr.2 (by simp); cases h
    subst hn
    rw [run_convert_bytes_nil w 24 5 Try.underlying24 Try.underlying5 _ _ _ Try.underlying9]
    rfl
  | some ad =>
    refine run_convert_bytes_back (P := Try.prog) w 24 9 5 ad c l Try.underlying24 Try.underlying5 Try.underlying9 fun j hj => ?_
    obtain ⟨ad', h, _, hc⟩ := hr.2 (by omega)
    cases h
    exact hc j _ (by simp [bvs, bv, List.getElem?_eq_getElem hj])
end Go.Proofs.Ytbpgbihcihnieaa

namespace Go.Proofs.Ytbpgbihcihnieaa
theorem ofInt_i64 (a : Nat) (ha : a < 9223372036854775808) : (BitVec.ofInt 64 (a : Int)).toNat = a := by
  rw [BitVec.ofInt_natCast, BitVec.toNat_ofNat]; exact Nat.mod_eq_of_lt (by omega)
theorem i64_or_nat (a b : Nat) (ha : a < 9223372036854775808) (hb : b < 9223372036854775808) : bits .or .i64 (a : Int) (b : Int) = ((a ||| b : Nat) : Int) := by
  have hx : a ||| b < 2 ^ 63 := Nat.or_lt_two_pow (by omega) (by omega)
  show IntKind.i64.wrap ((BitVec.ofInt 64 (a : Int) ||| BitVec.ofInt 64 (b : Int)).toNat : Int) = _
  rw [BitVec.toNat_or, ofInt_i64 a ha, ofInt_i64 b hb, IntKind.wrap_i64]
  omega
theorem or_add (x b k : Nat) (hb : b < 2 ^ k) : (x * 2 ^ k) ||| b = x * 2 ^ k + b := by
  rw [Nat.mul_comm, ← Nat.two_pow_add_eq_or_of_lt hb]
theorem or_four (a b c d : Nat) (ha : a < 256) (hb : b < 256) (hc : c < 256) (hd : d < 256) :
    bits .or .i64 (bits .or .i64 (bits .or .i64 ((a : Int) * 16777216) ((b : Int) * 65536)) ((c : Int) * 256)) (d : Int) = ((a * 16777216 + b * 65536 + c * 256 + d : Nat) : Int) := by
  have e1 : bits .or .i64 ((a : Int) * 16777216) ((b : Int) * 65536) = ((a * 16777216 + b * 65536 : Nat) : Int) := by
    have := i64_or_nat (a * 16777216) (b * 65536) (by omega) (by omega)
    rw [show a * 16777216 ||| b * 65536 = a * 16777216 + b * 65536 from or_add a (b * 65536) 24 (by omega)] at this
    rw [← this]; simp
  have e2 : bits .or .i64 ((a * 16777216 + b * 65536 : Nat) : Int) ((c : Int) * 256) = ((a * 16777216 + b * 65536 + c * 256 : Nat) : Int) := by
    have := i64_or_nat (a * 16777216 + b * 65536) (c * 256) (by omega) (by omega)
    rw [show (a * 16777216 + b * 65536) ||| c * 256 = a * 16777216 + b * 65536 + c * 256 from by
      have := or_add (a * 256 + b) (c * 256) 16 (by omega)
      rw [show (a * 256 + b) * 2 ^ 16 = a * 16777216 + b * 65536 from by omega] at this
      exact this] at this
    rw [← this]; simp
  have e3 : bits .or .i64 ((a * 16777216 + b * 65536 + c * 256 : Nat) : Int) (d : Int) = ((a * 16777216 + b * 65536 + c * 256 + d : Nat) : Int) := by
    have := i64_or_nat (a * 16777216 + b * 65536 + c * 256) d (by omega) (by omega)
    rw [show (a * 16777216 + b * 65536 + c * 256) ||| d = a * 16777216 + b * 65536 + c * 256 + d from by
      have := or_add (a * 65536 + b * 256 + c) d 8 (by omega)
      rw [show (a * 65536 + b * 256 + c) * 2 ^ 8 = a * 16777216 + b * 65536 + c * 256 from by omega] at this
      exact this] at this
    exact this
  rw [e1, e2, e3]
theorem ofInt_u64 (a : Nat) (ha : a < 18446744073709551616) : (BitVec.ofInt 64 (a : Int)).toNat = a := by
  rw [BitVec.ofInt_natCast, BitVec.toNat_ofNat]; exact Nat.mod_eq_of_lt (by omega)
theorem u64_or_nat (a b : Nat) (ha : a < 18446744073709551616) (hb : b < 18446744073709551616) : bits .or .u64 (a : Int) (b : Int) = ((a ||| b : Nat) : Int) := by
  have hx : a ||| b < 2 ^ 64 := Nat.or_lt_two_pow (by omega) (by omega)
  show IntKind.u64.wrap ((BitVec.ofInt 64 (a : Int) ||| BitVec.ofInt 64 (b : Int)).toNat : Int) = _
  rw [BitVec.toNat_or, ofInt_u64 a ha, ofInt_u64 b hb]
  have : IntKind.u64.wrap ((a ||| b : Nat) : Int) = (((a ||| b : Nat) : Int)) % 18446744073709551616 := by
    simp [IntKind.wrap, IntKind.signed, IntKind.bits]
  rw [this]; omega
theorem or_u32 (a b : Nat) (ha : a < 4294967296) (hb : b < 4294967296) : bits .or .u64 ((a : Int) * 4294967296) (b : Int) = ((a * 4294967296 + b : Nat) : Int) := by
  have := u64_or_nat (a * 4294967296) b (by omega) (by omega)
  rw [show a * 4294967296 ||| b = a * 4294967296 + b from or_add a b 32 (by omega)] at this
  rw [← this]; simp
end Go.Proofs.Ytbpgbihcihnieaa

namespace Go.Proofs.Ytbpgbihcihnieaa
section
variable {P : Program} {ops : Array Oper} {md : Region.Mode} {C : World → Prop} {Q : Act → World → Prop}

/-- An operation that ends without a panic: K of what it yields. -/
def okUpon (P : Program) (K : Value → World → Prop) : Result Next → Prop
  | .ok (.value v) w' => K v w'
  | .ok .skip w' => K undef w'
  | .ok (.enter f args) w' => Calls P f args w' (fun e w'' => ∃ v, e = .returned v ∧ K v w'')
  | .ok (.row row args) w' => Rows P row args w' K
  | _ => False
def okOp (P : Program) (o : Oper) (a : Act) (w : World) (K : Value → World → Prop) : Prop := okUpon P K ((execOp a.eval o).run P w)
def okStep (P : Program) (ops : Array Oper) (i : Nat) (K : Act → World → Prop) (a : Act) (w : World) : Prop :=
  match ops[i]? with
  | none => False
  | some o => if Region.wanted o (yielded ops a.tmps) then okOp P o a w (fun v w' => K (a.put o.dst v) w') else K (a.put o.dst undef) w

theorem okOp_mono {o : Oper} {a : Act} {w : World} {K K' : Value → World → Prop} (h : ∀ v w', K v w' → K' v w') (hh : okOp P o a w K) : okOp P o a w K' := by
  unfold okOp at *
  generalize (execOp a.eval o).run P w = r at *
  cases r with
  | ok n w' =>
    cases n <;> simp only [okUpon] at hh ⊢
    case value v => exact h _ _ hh
    case skip => exact h _ _ hh
    case enter f args => exact hh.mono fun e w'' ⟨v, he, hv⟩ => ⟨v, he, h _ _ hv⟩
    case row row args => exact Rows.mono hh fun v w'' hv => h _ _ hv
  | halt x w' => simp only [okUpon] at hh
theorem okStep_mono {i : Nat} {a : Act} {w : World} {K K' : Act → World → Prop} (h : ∀ a w, K a w → K' a w) (hh : okStep P ops i K a w) : okStep P ops i K' a w := by
  unfold okStep at *
  split
  · rename_i ho; simp only [ho] at hh
  · rename_i o ho
    simp only [ho] at hh
    split
    · rename_i hw; simp only [hw, if_true] at hh; exact okOp_mono (fun v w' hv => h _ _ hv) hh
    · rename_i hw; simp only [hw] at hh; exact h _ _ hh
theorem wpOp_of_okStep {Q' : Exit → Act → World → Prop} {i : Nat} {a : Act} {w : World} {K : Act → World → Prop} (hh : okStep P ops i K a w) : wpOp P ops Q' i K a w := by
  unfold okStep at hh
  unfold wpOp
  split
  · rename_i ho; simp only [ho] at hh
  · rename_i o ho
    simp only [ho] at hh
    split
    · rename_i hw
      simp only [hw, if_true] at hh
      refine .inl ?_
      unfold okOp at hh
      unfold Oper.wp
      generalize (execOp a.eval o).run P w = r at *
      cases r with
      | ok n w' =>
        cases n <;> simp only [okUpon] at hh <;> simp only [Oper.upon]
        case value v => exact hh
        case skip => exact hh
        case enter f args => exact hh.mono fun e w'' ⟨v, he, hv⟩ => by subst he; exact hv
        case row row args => exact hh
      | halt x w' => simp only [okUpon] at hh
    · rename_i hw; simp only [hw] at hh; exact hh

/-- Whatever order is picked from here on; every world on the way is one of the class. -/
def anyC (P : Program) (md : Region.Mode) (ops : Array Oper) (C : World → Prop) (Q : Act → World → Prop) : Nat → Array Bool → Act → World → Prop
  | 0, listed, a, w => Region.ready md ops listed = [] ∧ Q a w
  | fuel + 1, listed, a, w =>
    (Region.ready md ops listed = [] → Q a w) ∧
    ∀ i ∈ Region.ready md ops listed, okStep P ops i (fun a' w' => C w' ∧ anyC P md ops C Q fuel (listed.setIfInBounds i true) a' w') a w
theorem wpAny_of_anyC {Q' : Exit → Act → World → Prop} (hQ : ∀ a w, Q a w → Q' .normal a w) : ∀ (fuel : Nat) (listed : Array Bool) (a : Act) (w : World),
    anyC P md ops C Q fuel listed a w → wpAny P md ops Q' fuel listed a w
  | 0, _, _, _, h => ⟨h.1, hQ _ _ h.2⟩
  | fuel + 1, _, _, _, h => ⟨fun h0 => hQ _ _ (h.1 h0), fun i hi => wpOp_of_okStep (okStep_mono (fun a' w' h' => wpAny_of_anyC hQ fuel _ a' w' h'.2) (h.2 i hi))⟩
theorem wp_region_anyC {id : Nat} {Q' : Exit → Act → World → Prop} {a : Act} {w : World} (hm : P.follows .mixedOrders = true) (hC : C { w with drawn := w.drawn + 1 })
    (h : ∀ w', C w' → anyC P .any ops C (fun a w => Q' .normal a w) ops.size (Array.replicate ops.size false) a w') : (Code.region id ops true).wp P Q' a w :=
  wp_region_any hm (wpAny_of_anyC (fun _ _ h => h) _ _ _ _ (h _ hC))

/-- In state 'a', in every world of the class, the operation leaves 'v' in its temporary, and the world as it is. -/
def YieldsC (P : Program) (ops : Array Oper) (C : World → Prop) (o : Oper) (v : Value) (a : Act) : Prop :=
  (Region.wanted o (yielded ops a.tmps) = true ∧ ∀ w, C w → okOp P o a w (fun u w' => u = v ∧ w' = w)) ∨
  (Region.wanted o (yielded ops a.tmps) = false ∧ v = undef)
theorem YieldsC.of_same {o : Oper} {v : Value} {a a' : Act} (hy : YieldsC P ops C o v a) (he : execOp a'.eval o = execOp a.eval o)
    (hw : Region.wanted o (yielded ops a'.tmps) = Region.wanted o (yielded ops a.tmps)) : YieldsC P ops C o v a' := by
  unfold YieldsC okOp at *
  rw [he, hw]
  exact hy
theorem YieldsC.step {i : Nat} {o : Oper} {v : Value} {a : Act} {w : World} (hi : ops[i]? = some o) (hy : YieldsC P ops C o v a) (hC : C w) {K : Act → World → Prop} (h : K (a.put o.dst v) w) : okStep P ops i K a w := by
  unfold okStep
  simp only [hi]
  rcases hy with ⟨hw, hv⟩ | ⟨hw, rfl⟩
  · simp only [hw, if_true]
    exact okOp_mono (fun u w' ⟨h1, h2⟩ => by subst h1; subst h2; exact h) (hv w hC)
  · simp only [hw, Bool.false_eq_true, if_false]; exact h
theorem okStep_put {j : Nat} {oi oj : Oper} {v : Value} (hj : ops[j]? = some oj) (hap : oi.apart ops oj = true)
    (hsi : ∀ cs b, oi.op ≠ .select cs b) (hsj : ∀ cs b, oj.op ≠ .select cs b) {K : Act → World → Prop} {a : Act} {w : World}
    (hy : YieldsC P ops C oi v a) (h : okStep P ops j K (a.put oi.dst v) w) :
    okStep P ops j (fun a' w' => YieldsC P ops C oi v a' ∧ K (a'.put oi.dst v) w') a w := by
  obtain ⟨h1, h2, h3⟩ := Oper.apart_spec hap
  have keep : ∀ (a : Act), YieldsC P ops C oi v a → ∀ u, YieldsC P ops C oi v (a.put oj.dst u) := fun a hy u =>
    hy.of_same (execOp_put oi hsi a oj.dst u h3) (wanted_put oi a oj.dst u h3)
  unfold okStep at *
  simp only [hj] at *
  rw [wanted_put oj a oi.dst v h1] at h
  split
  · rename_i hw
    simp only [hw, if_true] at h
    have h' : okOp P oj a w (fun u w' => K ((a.put oi.dst v).put oj.dst u) w') := by
      unfold okOp at *
      rwa [execOp_put oj hsj a oi.dst v h1] at h
    exact okOp_mono (fun u w' hu => ⟨keep a hy u, by rw [← Act.put_comm a v u h2]; exact hu⟩) h'
  · rename_i hw
    simp only [hw] at h
    exact ⟨keep a hy _, by rw [← Act.put_comm a v undef h2]; exact h⟩
theorem anyC_first {i : Nat} {oi : Oper} {v : Value} (hi : ops[i]? = some oi) (hsel : ∀ (j : Nat) (o : Oper) cs b, ops[j]? = some o → o.op ≠ .select cs b) :
    ∀ (fuel : Nat) (listed : Array Bool) (a : Act),
      (∀ j oj, ops[j]? = some oj → j ≠ i → listed.getD j true = false → (∀ e ∈ oj.after, Region.binds md e = true → e.on ≠ i) → oi.apart ops oj = true) →
      i ∈ Region.ready md ops listed → YieldsC P ops C oi v a → ∀ w, C w →
      anyC P md ops C Q fuel (listed.setIfInBounds i true) (a.put oi.dst v) w → anyC P md ops C Q (fuel + 1) listed a w := by
  intro fuel
  induction fuel with
  | zero =>
    intro listed a _ hr hy w hC H
    refine ⟨fun h => (by rw [h] at hr; cases hr), fun j hj => ?_⟩
    by_cases hji : j = i
    · subst hji; exact hy.step hi hC ⟨hC, H⟩
    · have := ready_mono hj hji
      rw [H.1] at this
      cases this
  | succ fuel ih =>
    intro listed a hfree hr hy w hC H
    refine ⟨fun h => (by rw [h] at hr; cases hr), fun j hj => ?_⟩
    by_cases hji : j = i
    · subst hji; exact hy.step hi hC ⟨hC, H⟩
    · have h1 := H.2 j (ready_mono hj hji)
      obtain ⟨hjun, oj, hoj, hall⟩ := mem_ready.1 hj
      have hnot : ∀ e ∈ oj.after, Region.binds md e = true → e.on ≠ i := fun e he hb heq => by
        have h1 := hall e he hb
        have h0 := (mem_ready.1 hr).1
        rw [heq] at h1
        rcases Nat.lt_or_ge i listed.size with h' | h'
        · simp [h'] at h0 h1; rw [h0] at h1; cases h1
        · simp [Array.getElem?_eq_none h'] at h1
      have h2 := okStep_put hoj (hfree j oj hoj hji hjun hnot) (fun cs b => hsel i oi cs b hi) (fun cs b => hsel j oj cs b hoj) hy h1
      have hfree' : ∀ k ok, ops[k]? = some ok → k ≠ i → (listed.setIfInBounds j true).getD k true = false →
          (∀ e ∈ ok.after, Region.binds md e = true → e.on ≠ i) → oi.apart ops ok = true := fun k ok hk hki hun hno => by
        refine hfree k ok hk hki ?_ hno
        by_cases hjk : j = k
        · subst hjk; exact hjun
        · rw [getD_set_ne true hjk] at hun; exact hun
      refine okStep_mono (fun a' w' h3 => ⟨h3.2.1, ih (listed.setIfInBounds j true) a' hfree' (ready_mono hr (Ne.symm hji)) h3.1 w' h3.2.1 ?_⟩) h2
      rw [Array.setIfInBounds_comm _ _ hji]
      exact h3.2.2

/-- Phase 1: operation number i, which may come up now and is apart from all that do not wait for it, is taken. -/
theorem take_quiet {i : Nat} {oi : Oper} {fuel : Nat} {listed : Array Bool} {a : Act} (hi : ops[i]? = some oi) (hs : Region.noSelect ops = true)
    (hB : (Region.free md ops listed i && (Region.ready md ops listed).contains i) = true)
    (h : if Region.wanted oi (yielded ops a.tmps) then ∃ v, (∀ w, C w → okOp P oi a w (fun u w' => u = v ∧ w' = w)) ∧ ∀ w, C w → anyC P md ops C Q fuel (listed.setIfInBounds i true) (a.put oi.dst v) w
      else ∀ w, C w → anyC P md ops C Q fuel (listed.setIfInBounds i true) (a.put oi.dst undef) w) : ∀ w, C w → anyC P md ops C Q (fuel + 1) listed a w := by
  rw [Bool.and_eq_true] at hB
  intro w hC
  by_cases hw : Region.wanted oi (yielded ops a.tmps) = true
  · rw [if_pos hw] at h
    obtain ⟨v, h1, h2⟩ := h
    exact anyC_first hi (Region.noSelect_spec hs) fuel listed a (Region.free_spec hi hB.1) (by simpa using hB.2) (.inl ⟨hw, h1⟩) w hC (h2 w hC)
  · rw [if_neg hw] at h
    exact anyC_first hi (Region.noSelect_spec hs) fuel listed a (Region.free_spec hi hB.1) (by simpa using hB.2) (.inr ⟨by simpa using hw, rfl⟩) w hC (h w hC)
/-- The walk of one operation ends here. -/
def OnK (K : Act → World → Prop) : Exit → Act → World → Prop
  | .normal, a, w => K a w
  | _, _, _ => False
/-- Phase 1: operation number i, walked in whatever world of the class, leaves that world and the frame a'. -/
theorem take_walk {i : Nat} {oi : Oper} {fuel : Nat} {listed : Array Bool} {a a' : Act} {w0 : World} (hi : ops[i]? = some oi)
    (hB : (Region.noSelect ops && (Region.free md ops listed i && (Region.ready md ops listed).contains i)) = true) (hw0 : C w0)
    (hd : (match oi.dst with | some d => decide (d < a.tmps.size) | none => false) = true)
    (hv : ∀ w, C w → ∀ K : Act → World → Prop, K a' w → wpList P ops (OnK K) [oi] a w) (hdf : a'.defers = a.defers)
    (h : ∀ w, C w → anyC P md ops C Q fuel (listed.setIfInBounds i true) a' w) : ∀ w, C w → anyC P md ops C Q (fuel + 1) listed a w := by
  rw [Bool.and_eq_true] at hB
  -- what the walk shows
  have key : ∀ w, C w → if Region.wanted oi (yielded ops a.tmps) then okOp P oi a w (fun u w' => a.put oi.dst u = a' ∧ w' = w) else a.put oi.dst undef = a' := by
    intro w hC
    have h1 := hv w hC (fun x y => x = a' ∧ y = w) ⟨rfl, rfl⟩
    unfold wpList at h1
    split at h1
    · rename_i hw
      rw [if_pos hw]
      rcases h1 with h1 | ⟨_, h1⟩
      · unfold Oper.wp at h1
        unfold okOp
        generalize (execOp a.eval oi).run P w = r at *
        cases r with
        | ok n w' =>
          cases n <;> simp only [Oper.upon, wpList, OnK] at h1 <;> simp only [okUpon]
          case value v => exact h1
          case skip => exact h1
          case defer d =>
            have h2 := congrArg (fun x : Act => x.defers.length) h1.1
            rw [hdf] at h2
            cases hdd : oi.dst <;> simp [Act.put, hdd] at h2
          case enter f args =>
            refine h1.mono fun e w'' he => ?_
            cases e with
            | returned v => exact ⟨v, rfl, he⟩
            | panicked c => exact he.elim
            | outgrown => obtain ⟨_, _, hq⟩ := he; exact hq.elim
          case row row args => exact h1
        | halt x w' => cases x <;> simp only [Oper.upon, OnK] at h1
      · obtain ⟨_, _, hq⟩ := h1; exact hq.elim
    · rename_i hw
      rw [if_neg hw]
      unfold wpList at h1
      exact h1.1
  -- one value for all worlds
  have hval : ∃ v, a' = a.put oi.dst v := by
    have h1 := key w0 hw0
    split at h1
    · unfold okOp at h1
      generalize (execOp a.eval oi).run P w0 = r at *
      cases r with
      | ok n w' =>
        cases n <;> simp only [okUpon] at h1
        case value v => exact ⟨v, h1.1.symm⟩
        case skip => exact ⟨undef, h1.1.symm⟩
        case enter f args =>
          obtain ⟨e, w'', fr, ⟨v, _, hv, _⟩, _⟩ := h1 []
          exact ⟨v, hv.symm⟩
        case row row args =>
          obtain ⟨v, w'', ⟨hv, _⟩, _⟩ := h1 default []
          exact ⟨v, hv.symm⟩
      | halt x w' => simp only [okUpon] at h1
    · exact ⟨undef, h1.symm⟩
  obtain ⟨v, rfl⟩ := hval
  have hinj : ∀ u, a.put oi.dst u = a.put oi.dst v → oi.dst.isSome = true → u = v := by
    intro u hu hs
    cases hdd : oi.dst with
    | none => rw [hdd] at hs; cases hs
    | some d =>
      rw [hdd] at hu hd
      have hd' : d < a.tmps.size := by simpa using hd
      have h1 : (a.put (some d) u).tmps[d]? = (a.put (some d) v).tmps[d]? := by rw [hu]
      simpa [Act.put, hd'] using h1
  intro w hC
  cases hdd : oi.dst with
  | none =>
    rw [hdd] at hd
    cases hd
  | some d =>
    refine take_quiet hi hB.1 hB.2 ?_ w hC
    split
    · rename_i hw
      refine ⟨v, fun w1 hC1 => ?_, fun w1 hC1 => h w1 hC1⟩
      have h1 := key w1 hC1
      rw [if_pos hw] at h1
      exact okOp_mono (fun u w2 ⟨e1, e2⟩ => ⟨hinj u e1 (by rw [hdd]; rfl), e2⟩) h1
    · rename_i hw
      have h1 := key w0 hw0
      rw [if_neg hw] at h1
      have hu := hinj undef h1 (by rw [hdd]; rfl)
      rw [hu]
      exact fun w1 hC1 => h w1 hC1
theorem anyC_mono {C' : World → Prop} (h : ∀ w, C w → C' w) : ∀ (fuel : Nat) (listed : Array Bool) (a : Act) (w : World), anyC P md ops C Q fuel listed a w → anyC P md ops C' Q fuel listed a w
  | 0, _, _, _, hh => hh
  | fuel + 1, _, _, _, hh => ⟨hh.1, fun i hi => okStep_mono (fun a' w' ⟨h1, h2⟩ => ⟨h _ h1, anyC_mono h fuel _ a' w' h2⟩) (hh.2 i hi)⟩

/-- Whatever order is picked from here on, in whatever world that has only grown since w0. -/
def Any (P : Program) (ops : Array Oper) (Q : Act → World → Prop) (fuel : Nat) (listed : Array Bool) (a : Act) (w0 : World) : Prop :=
  ∀ w, RowKit.Below w0.heap.size w0 w → anyC P .any ops (fun w => RowKit.Below w0.heap.size w0 w) Q fuel listed a w

theorem Any.start {id n : Nat} {Q' : Exit → Act → World → Prop} {a : Act} {w : World} {l : List Oper} (hm : P.follows .mixedOrders = true) (hn : l.length = n)
    (h : Any P l.toArray (fun a w => Q' .normal a w) n (Array.replicate n false) a w) : (Code.region id l.toArray true).wp P Q' a w := by
  subst hn
  refine wp_region_anyC (C := fun w' => RowKit.Below w.heap.size w w') hm ⟨rfl, rfl, rfl, Nat.le_refl _, fun _ _ => rfl⟩ ?_
  intro w' hw'
  simpa using h w' hw'
/-- At the end. -/
theorem Any.done {listed : Array Bool} {a : Act} {w0 : World} (hr : (Region.ready .any ops listed).isEmpty = true) (h : ∀ w, RowKit.Below w0.heap.size w0 w → Q a w) : Any P ops Q 0 listed a w0 :=
  fun w hw => ⟨by simpa using hr, h w hw⟩
/-- A quiet operation is taken. -/
theorem Any.take {i : Nat} {oi : Oper} {fuel : Nat} {listed : Array Bool} {a a' : Act} {w0 : World} (hi : ops[i]? = some oi)
    (hB : (Region.noSelect ops && (Region.free .any ops listed i && (Region.ready .any ops listed).contains i)) = true)
    (hd : (match oi.dst with | some d => decide (d < a.tmps.size) | none => false) = true)
    (hv : ∀ w, RowKit.Below w0.heap.size w0 w → ∀ K : Act → World → Prop, K a' w → wpList P ops (OnK K) [oi] a w) (hdf : a'.defers = a.defers)
    (h : Any P ops Q fuel (listed.setIfInBounds i true) a' w0) : Any P ops Q (fuel + 1) listed a w0 :=
  take_walk (C := fun w => RowKit.Below w0.heap.size w0 w) hi hB (RowKit.Below.refl _ _) hd hv hdf h
theorem Any.again {fuel : Nat} {listed : Array Bool} {a : Act} {w0 w : World} (hw : RowKit.Below w0.heap.size w0 w) (h : Any P ops Q fuel listed a w) : anyC P .any ops (fun w => RowKit.Below w0.heap.size w0 w) Q fuel listed a w :=
  anyC_mono (fun _ h' => hw.trans (h'.mono hw.size)) _ _ _ _ (h w (RowKit.Below.refl _ _))
theorem okOp_of_wp {o : Oper} {a : Act} {w : World} {K : Act → World → Prop} (hdf : ∀ a' w', K a' w' → a'.defers = a.defers) (h : wpList P ops (OnK K) [o] a w) :
    if Region.wanted o (yielded ops a.tmps) then okOp P o a w (fun v w' => K (a.put o.dst v) w') else K (a.put o.dst undef) w := by
  unfold wpList at h
  split at h
  · rename_i hw
    rw [if_pos hw]
    rcases h with h | ⟨_, h⟩
    · unfold Oper.wp at h
      unfold okOp
      generalize (execOp a.eval o).run P w = r at *
      cases r with
      | ok n w' =>
        cases n <;> simp only [Oper.upon, wpList, OnK] at h <;> simp only [okUpon]
        case value v => exact h
        case skip => exact h
        case defer d =>
          have h2 := congrArg List.length (hdf _ _ h)
          cases hdd : o.dst <;> simp [Act.put, hdd] at h2
        case enter f args =>
          refine h.mono fun e w'' he => ?_
          cases e with
          | returned v => exact ⟨v, rfl, he⟩
          | panicked c => exact he.elim
          | outgrown => obtain ⟨_, _, hq⟩ := he; exact hq.elim
        case row row args => exact h
      | halt x w' => cases x <;> simp only [Oper.upon, OnK] at h
    · obtain ⟨_, _, hq⟩ := h; exact hq.elim
  · rename_i hw
    rw [if_neg hw]
    unfold wpList at h
    exact h
/-- The only operation that may come up now: walked as it stands. -/
def Solo (P : Program) (ops : Array Oper) (Q : Act → World → Prop) (fuel : Nat) (listed : Array Bool) (df : List Deferred) (w0 : World) (a' : Act) (w' : World) : Prop :=
  a'.defers = df ∧ RowKit.Below w0.heap.size w0 w' ∧ Any P ops Q fuel listed a' w'
theorem Any.solo {i : Nat} {oi : Oper} {fuel : Nat} {listed : Array Bool} {a : Act} {w0 : World} (hi : ops[i]? = some oi) (hr : (Region.ready .any ops listed == [i]) = true)
    (h : ∀ w, RowKit.Below w0.heap.size w0 w → wpList P ops (OnK (Solo P ops Q fuel (listed.setIfInBounds i true) a.defers w0)) [oi] a w) : Any P ops Q (fuel + 1) listed a w0 := by
  intro w hw
  have hr' : Region.ready .any ops listed = [i] := by simpa using hr
  refine ⟨fun h0 => (by rw [hr'] at h0; cases h0), fun j hj => ?_⟩
  rw [hr'] at hj
  obtain rfl : j = i := by simpa using hj
  have h1 := okOp_of_wp (fun a' w' hk => hk.1) (h w hw)
  unfold okStep
  simp only [hi]
  split
  · rename_i hw1
    rw [if_pos hw1] at h1
    exact okOp_mono (fun v w' ⟨_, h2, h3⟩ => ⟨h2, h3.again h2⟩) h1
  · rename_i hw1
    rw [if_neg hw1] at h1
    exact ⟨h1.2.1, h1.2.2.again h1.2.1⟩
end
end Go.Proofs.Ytbpgbihcihnieaa

namespace Go.Proofs.Ytbpgbihcihnieaa
section
variable {P : Program} {ops : Array Oper} {md : Region.Mode} {C : World → Prop} {Q : Act → World → Prop}

def dstOf (ops : Array Oper) (i : Nat) : Option Tmp := (ops[i]?).bind (·.dst)
def getD' (a : Act) : Option Tmp → Value
  | some d => a.tmps.getD d undef
  | none => undef
def puts (ops : Array Oper) (vs : Nat → Value) : List Nat → Act → Act
  | [], a => a
  | i :: l, a => puts ops vs l (a.put (dstOf ops i) (vs i))
def looks (ops : Array Oper) (i : Nat) : List Tmp := match ops[i]? with | some o => o.looksAt ops | none => []

/-- What is known of operation i once it has come up: 'sp i' of its value and the world; or, of a quiet one, that it yields just that value. -/
def Kn (P : Program) (ops : Array Oper) (C : World → Prop) (sp : Nat → Option (Value → World → Prop)) (i : Nat) (a : Act) (w : World) : Prop :=
  match ops[i]? with
  | none => True
  | some o => match sp i with
    | some φ => φ (getD' a o.dst) w
    | none => o.dst.isSome = true → YieldsC P ops C o (getD' a o.dst) a
/-- What is asked of operation i. -/
def Ask (P : Program) (ops : Array Oper) (C : World → Prop) (S : World → World → Prop) (sp : Nat → Option (Value → World → Prop)) (i : Nat) (a : Act) (w : World) : Prop :=
  match ops[i]? with
  | none => False
  | some o => match sp i with
    | some φ => if Region.wanted o (yielded ops a.tmps) then okOp P o a w (fun v w' => C w' ∧ S w w' ∧ φ (if o.dst.isSome then v else undef) w') else φ undef w
    | none => ∃ v, YieldsC P ops C o v a

/-- The closed check: the places D i lead ahead of i; nothing looks at what may come later; each temporary is written once. -/
def sepB (md : Region.Mode) (ops : Array Oper) (size : Nat) (listed : Array Bool) (rem : List Nat) (D : Nat → List Nat) : Bool :=
  (List.range ops.size).all (fun i => listed.getD i false || rem.contains i) &&
  rem.all (fun i => decide (i < ops.size) && !listed.getD i true && (match dstOf ops i with | some d => decide (d < size) | none => true) &&
    (match ops[i]? with | some o => (match o.op with | .select .. => false | _ => true) && o.after.all (fun e => !Region.binds md e || decide (e.on < i)) | none => false) &&
    (D i).all (fun j => rem.contains j && (D j).all ((D i).contains ·) && (match ops[i]? with | some o => o.after.any (fun e => Region.binds md e && (e.on == j || (rem.contains e.on && (D e.on).contains j))) | none => false)) &&
    rem.all (fun j => (match dstOf ops j with | some d => !(looks ops i).contains d || (D i).contains j | none => true) && (i == j || match dstOf ops i with | some d => dstOf ops j != some d | none => true)))

def Agree (ops : Array Oper) (rem : List Nat) (a1 a : Act) : Prop :=
  a.defers = a1.defers ∧ a.tmps.size = a1.tmps.size ∧ ∀ t, (∀ i ∈ rem, dstOf ops i ≠ some t) → a.tmps[t]? = a1.tmps[t]?

theorem act_ext {a b : Act} (h1 : a.tmps = b.tmps) (h2 : a.defers = b.defers) : a = b := by
  cases a; cases b; simp only at h1 h2; subst h1; subst h2; rfl
theorem puts_size (vs : Nat → Value) : ∀ (l : List Nat) (a : Act), (puts ops vs l a).tmps.size = a.tmps.size
  | [], _ => rfl
  | i :: l, a => by
    rw [puts, puts_size vs l]
    cases dstOf ops i <;> simp [Act.put]
theorem puts_defers (vs : Nat → Value) : ∀ (l : List Nat) (a : Act), (puts ops vs l a).defers = a.defers
  | [], _ => rfl
  | i :: l, a => by
    rw [puts, puts_defers vs l]
    cases dstOf ops i <;> simp [Act.put]
theorem puts_other (vs : Nat → Value) (t : Nat) : ∀ (l : List Nat) (a : Act), (∀ i ∈ l, dstOf ops i ≠ some t) → (puts ops vs l a).tmps[t]? = a.tmps[t]?
  | [], _, _ => rfl
  | i :: l, a, h => by
    rw [puts, puts_other vs t l _ (fun j hj => h j (List.mem_cons_of_mem _ hj))]
    have h0 := h i List.mem_cons_self
    cases hd : dstOf ops i with
    | none => rfl
    | some d =>
      have hne : d ≠ t := fun e => h0 (by rw [hd, e])
      simp [Act.put, Array.getElem?_setIfInBounds_ne hne]
theorem puts_at (vs : Nat → Value) (t : Nat) : ∀ (l : List Nat) (a : Act) (i : Nat), i ∈ l → dstOf ops i = some t → t < a.tmps.size →
    (∀ j ∈ l, dstOf ops j = some t → j = i) → (puts ops vs l a).tmps[t]? = some (vs i)
  | k :: l, a, i, hi, hd, ht, hu => by
    rw [puts]
    have hsz : (a.put (dstOf ops k) (vs k)).tmps.size = a.tmps.size := by cases dstOf ops k <;> simp [Act.put]
    by_cases hil : i ∈ l
    · exact puts_at vs t l _ i hil hd (by rw [hsz]; exact ht) (fun j hj hdj => hu j (List.mem_cons_of_mem _ hj) hdj)
    · have hik : i = k := by
        rcases List.mem_cons.1 hi with h | h
        · exact h
        · exact absurd h hil
      subst hik
      rw [puts_other vs t l _ (fun j hj hdj => hil (by rw [← hu j (List.mem_cons_of_mem _ hj) hdj]; exact hj))]
      rw [hd]
      simp [Act.put, ht]

theorem wanted_congr {a b : Act} {o : Oper} (h : ∀ t ∈ o.looksAt ops, a.tmps[t]? = b.tmps[t]?) : Region.wanted o (yielded ops a.tmps) = Region.wanted o (yielded ops b.tmps) := by
  unfold Region.wanted
  cases hg : o.guard with
  | none => rfl
  | some gw =>
    obtain ⟨g, want⟩ := gw
    have : yielded ops a.tmps g = yielded ops b.tmps g := by
      unfold yielded
      cases ht : (ops[g]?).bind (·.dst) with
      | none => rfl
      | some t =>
        have := h t (by simp [Oper.looksAt, hg, ht])
        simp [this]
    simp only [this]
theorem exec_congr {a b : Act} {o : Oper} (hs : ∀ cs x, o.op ≠ .select cs x) (h : ∀ t ∈ o.looksAt ops, a.tmps[t]? = b.tmps[t]?) : execOp a.eval o = execOp b.eval o :=
  execOp_congr o hs fun x hx => by
    cases x with
    | tmp t =>
      have := h t (by
        unfold Oper.looksAt
        exact List.mem_append_left _ (List.mem_filterMap.2 ⟨.tmp t, by simpa using hx, rfl⟩))
      simp [Act.eval, this]
    | _ => rfl

section
variable {S : World → World → Prop} {sp : Nat → Option (Value → World → Prop)} {listed0 : Array Bool} {rem : List Nat} {D : Nat → List Nat} {a1 : Act}

structure Sep (md : Region.Mode) (ops : Array Oper) (size : Nat) (listed : Array Bool) (rem : List Nat) (D : Nat → List Nat) : Prop where
  all : ∀ i, i < ops.size → listed.getD i false = true ∨ i ∈ rem
  lt : ∀ i ∈ rem, i < ops.size
  un : ∀ i ∈ rem, listed.getD i true = false
  fit : ∀ i ∈ rem, ∀ d, dstOf ops i = some d → d < size
  sel : ∀ i ∈ rem, ∃ o, ops[i]? = some o ∧ ∀ cs x, o.op ≠ .select cs x
  low : ∀ i ∈ rem, ∀ o, ops[i]? = some o → ∀ e ∈ o.after, Region.binds md e = true → e.on < i
  sub : ∀ i ∈ rem, ∀ j ∈ D i, j ∈ rem
  trans : ∀ i ∈ rem, ∀ j ∈ D i, ∀ k ∈ D j, k ∈ D i
  lead : ∀ i ∈ rem, ∀ j ∈ D i, ∃ o, ops[i]? = some o ∧ ∃ e ∈ o.after, Region.binds md e = true ∧ (e.on = j ∨ (e.on ∈ rem ∧ j ∈ D e.on))
  look : ∀ i ∈ rem, ∀ j ∈ rem, ∀ d, dstOf ops j = some d → d ∈ looks ops i → j ∈ D i
  once : ∀ i ∈ rem, ∀ j ∈ rem, ∀ d, dstOf ops i = some d → dstOf ops j = some d → i = j

theorem sep_of {size : Nat} (h : sepB md ops size listed0 rem D = true) : Sep md ops size listed0 rem D := by
  simp only [sepB, Bool.and_eq_true, List.all_eq_true] at h
  obtain ⟨hall, h⟩ := h
  refine ⟨?_, ?_, ?_, ?_, ?_, ?_, ?_, ?_, ?_, ?_, ?_⟩
  · intro i hi
    have := hall i (List.mem_range.2 hi)
    simpa using this
  · intro i hi; simpa using (h i hi).1.1.1.1.1
  · intro i hi; simpa using (h i hi).1.1.1.1.2
  · intro i hi d hd
    have := (h i hi).1.1.1.2
    rw [hd] at this; simpa using this
  · intro i hi
    have := (h i hi).1.1.2
    cases ho : ops[i]? with
    | none => rw [ho] at this; cases this
    | some o =>
      rw [ho] at this
      obtain ⟨dst, op, ty, pos, aft, gd⟩ := o
      refine ⟨_, rfl, fun cs x he => ?_⟩
      simp only at he
      subst he
      simp at this
  · intro i hi o ho e he hb
    have := (h i hi).1.1.2
    rw [ho] at this
    simp only [Bool.and_eq_true] at this
    have := Array.all_eq_true_iff_forall_mem.1 this.2 e he
    simpa [hb] using this
  · intro i hi j hj; simpa using ((h i hi).1.2 j hj).1.1
  · intro i hi j hj k hk; simpa using ((h i hi).1.2 j hj).1.2 k hk
  · intro i hi j hj
    have := ((h i hi).1.2 j hj).2
    cases ho : ops[i]? with
    | none => rw [ho] at this; cases this
    | some o =>
      rw [ho] at this
      obtain ⟨e, he, hb⟩ := Array.any_eq_true'.1 this
      simp only [Bool.and_eq_true, Bool.or_eq_true, beq_iff_eq, List.contains_iff_mem] at hb
      exact ⟨o, rfl, e, he, hb.1, hb.2⟩
  · intro i hi j hj d hd hl
    have := ((h i hi).2 j hj).1
    rw [hd] at this
    simpa [hl] using this
  · intro i hi j hj d hd hd'
    have := ((h i hi).2 j hj).2
    rw [hd] at this
    simp only [hd', Bool.or_eq_true, beq_iff_eq, bne_iff_ne, ne_eq, not_true_eq_false, or_false] at this
    exact this

/-- Operation i (and what is known of it) sees no more of a frame than what comes ahead of it. -/
theorem same_looks {size : Nat} (hs : Sep md ops size listed0 rem D) (hsz : a1.tmps.size = size) {a : Act} (hag : Agree ops rem a1 a) {l : List Nat} (hl : ∀ j ∈ l, j ∈ rem) {i : Nat} (hi : i ∈ rem) (hD : ∀ j ∈ D i, j ∈ l)
    {o : Oper} (ho : ops[i]? = some o) : ∀ t ∈ o.looksAt ops, a.tmps[t]? = (puts ops (fun j => getD' a (dstOf ops j)) l a1).tmps[t]? := by
  intro t ht
  by_cases hex : ∃ j ∈ rem, dstOf ops j = some t
  · obtain ⟨j, hj, hd⟩ := hex
    have hjD : j ∈ D i := hs.look i hi j hj t hd (by simp [looks, ho, ht])
    have htl : t < a1.tmps.size := by rw [hsz]; exact hs.fit j hj t hd
    rw [puts_at _ t l a1 j (hD j hjD) hd htl (fun k hk hdk => hs.once k (hl k hk) j hj t hdk hd)]
    have hta : t < a.tmps.size := by rw [hag.2.1]; exact htl
    simp only [getD', hd]
    rw [Array.getD_eq_getD_getElem?, Array.getElem?_eq_getElem hta]
    rfl
  · have hno : ∀ j ∈ rem, dstOf ops j ≠ some t := fun j hj h => hex ⟨j, hj, h⟩
    rw [hag.2.2 t hno, puts_other _ t l a1 (fun j hj => hno j (hl j hj))]
theorem get_puts {size : Nat} (hs : Sep md ops size listed0 rem D) (hsz : a1.tmps.size = size) {a : Act} {l : List Nat} (hl : ∀ j ∈ l, j ∈ rem) {j : Nat} (hj : j ∈ l) :
    getD' (puts ops (fun j => getD' a (dstOf ops j)) l a1) (dstOf ops j) = getD' a (dstOf ops j) := by
  cases hd : dstOf ops j with
  | none => rfl
  | some d =>
    have hdl : d < a1.tmps.size := by rw [hsz]; exact hs.fit j (hl j hj) d hd
    have := puts_at (ops := ops) (fun j => getD' a (dstOf ops j)) d l a1 j hj hd hdl (fun k hk hdk => hs.once k (hl k hk) j (hl j hj) d hdk hd)
    simp only [getD'] at this ⊢
    rw [Array.getD_eq_getD_getElem?, this, hd]
    rfl
theorem kn_puts {size : Nat} (hs : Sep md ops size listed0 rem D) (hsz : a1.tmps.size = size) {a : Act} {w : World} (hag : Agree ops rem a1 a) {l : List Nat} (hl : ∀ j ∈ l, j ∈ rem) {j : Nat} (hj : j ∈ l) (hDl : ∀ k ∈ D j, k ∈ l)
    (h : Kn P ops C sp j a w) : Kn P ops C sp j (puts ops (fun j => getD' a (dstOf ops j)) l a1) w := by
  unfold Kn at *
  cases ho : ops[j]? with
  | none => trivial
  | some o =>
    have hdo : dstOf ops j = o.dst := by simp [dstOf, ho]
    have hg := get_puts hs hsz (a := a) hl hj
    rw [hdo] at hg
    simp only [ho] at h ⊢
    cases hsp : sp j with
    | some φ => simp only [hsp] at h ⊢; rw [hg]; exact h
    | none =>
      simp only [hsp] at h ⊢
      rw [hg]
      intro hd
      have hsame := same_looks hs hsz hag hl (hl j hj) hDl ho
      obtain ⟨o', ho', hsel⟩ := hs.sel j (hl j hj)
      rw [ho] at ho'; cases ho'
      exact (h hd).of_same (exec_congr hsel fun t ht => (hsame t ht).symm) (wanted_congr fun t ht => (hsame t ht).symm)

/-- PHASE 2. -/
theorem anyC_rest {size : Nat} (sp : Nat → Option (Value → World → Prop)) (S : World → World → Prop) (rem : List Nat) (D : Nat → List Nat) (hsz : a1.tmps.size = size) (hB : sepB md ops size listed0 rem D = true) (hls : listed0.size = ops.size)
    (hmono : ∀ i φ, sp i = some φ → ∀ v w w', φ v w → S w w' → φ v w')
    (hquiet : ∀ w, S w w)
    (hask : ∀ i ∈ rem, ∀ (vs : Nat → Value) (w : World), C w → (∀ j ∈ D i, Kn P ops C sp j (puts ops vs (D i) a1) w) → Ask P ops C S sp i (puts ops vs (D i) a1) w)
    (hend : ∀ (vs : Nat → Value) (w : World), C w → (∀ j ∈ rem, Kn P ops C sp j (puts ops vs rem a1) w) → Q (puts ops vs rem a1) w)
    {fuel : Nat} (hfuel : rem.length ≤ fuel) : ∀ w, C w → anyC P md ops C Q fuel listed0 a1 w := by
  have hs := sep_of hB
  -- the invariant
  have key : ∀ (fuel : Nat) (listed : Array Bool) (a : Act) (w : World), C w → listed.size = ops.size → Agree ops rem a1 a → (∀ i, i ∉ rem → listed.getD i false = listed0.getD i false) →
      (∀ i ∈ rem, listed.getD i false = true → (∀ j ∈ D i, listed.getD j false = true) ∧ Kn P ops C sp i a w) →
      (rem.filter fun i => !listed.getD i false).length ≤ fuel → anyC P md ops C Q fuel listed a w := by
    intro fuel
    have hdone : ∀ (listed : Array Bool) (a : Act) (w : World), C w → Agree ops rem a1 a →
        (∀ i ∈ rem, listed.getD i false = true → (∀ j ∈ D i, listed.getD j false = true) ∧ Kn P ops C sp i a w) → (∀ i ∈ rem, listed.getD i false = true) → Q a w := by
      intro listed a w hC hag hkn hfull
      have hext : a = puts ops (fun j => getD' a (dstOf ops j)) rem a1 := by
        have h1 : a.tmps = (puts ops (fun j => getD' a (dstOf ops j)) rem a1).tmps := by
          apply Array.ext_getElem?
          intro t
          by_cases hex : ∃ j ∈ rem, dstOf ops j = some t
          · obtain ⟨j, hj, hd⟩ := hex
            have htl : t < a1.tmps.size := by rw [hsz]; exact hs.fit j hj t hd
            rw [puts_at _ t rem a1 j hj hd htl (fun k hk hdk => hs.once k hk j hj t hdk hd)]
            have hta : t < a.tmps.size := by rw [hag.2.1]; exact htl
            simp only [getD', hd]
            rw [Array.getD_eq_getD_getElem?, Array.getElem?_eq_getElem hta]
            rfl
          · have hno : ∀ j ∈ rem, dstOf ops j ≠ some t := fun j hj h => hex ⟨j, hj, h⟩
            rw [hag.2.2 t hno, puts_other _ t rem a1 hno]
        have h2 : a.defers = (puts ops (fun j => getD' a (dstOf ops j)) rem a1).defers := by rw [puts_defers]; exact hag.1
        exact act_ext h1 h2
      rw [hext]
      exact hend _ w hC fun j hj => kn_puts hs hsz hag (fun _ h => h) hj (fun k hk => hs.sub j hj k hk) (hkn j hj (hfull j hj)).2
    have hstep : ∀ (listed : Array Bool) (a : Act) (w : World) (i : Nat), C w → listed.size = ops.size → Agree ops rem a1 a → (∀ i, i ∉ rem → listed.getD i false = listed0.getD i false) →
        (∀ i ∈ rem, listed.getD i false = true → (∀ j ∈ D i, listed.getD j false = true) ∧ Kn P ops C sp i a w) → i ∈ Region.ready md ops listed → i ∈ rem ∧
        okStep P ops i (fun a' w' => C w' ∧ Agree ops rem a1 a' ∧ ∀ k ∈ rem, (listed.setIfInBounds i true).getD k false = true → (∀ j ∈ D k, (listed.setIfInBounds i true).getD j false = true) ∧ Kn P ops C sp k a' w') a w := by
      intro listed a w i hC hlsz hag hout hkn hr
      obtain ⟨hun, o, ho, hedge⟩ := mem_ready.1 hr
      have hlt : i < ops.size := (Array.getElem?_eq_some_iff.1 ho).1
      have hir : i ∈ rem := by
        rcases hs.all i hlt with h | h
        · by_cases hin : i ∈ rem
          · exact hin
          · have h1 := hout i hin
            rw [h] at h1
            have h2 : listed.getD i true = true := by
              rw [Array.getD_eq_getD_getElem?] at h1 ⊢
              rw [Array.getElem?_eq_getElem (by omega)] at h1 ⊢
              exact h1
            rw [h2] at hun; cases hun
        · exact h
      refine ⟨hir, ?_⟩
      have hDl : ∀ j ∈ D i, listed.getD j false = true := by
        intro j hj
        obtain ⟨o', ho', e, he, hb, hcase⟩ := hs.lead i hir j hj
        rw [ho] at ho'; cases ho'
        have hl := hedge e he hb
        rcases hcase with h | ⟨h1, h2⟩
        · rw [← h]; exact hl
        · exact (hkn e.on h1 hl).1 j h2
      have hself : i ∉ D i := fun h => by
        have := hDl i h
        rw [Array.getD_eq_getD_getElem?] at this hun
        rw [Array.getElem?_eq_getElem (by omega)] at this hun
        simp at this hun
        rw [this] at hun; cases hun
      have hb := hask i hir (fun j => getD' a (dstOf ops j)) w hC fun j hj => kn_puts hs hsz hag (fun k hk => hs.sub i hir k hk) hj (fun k hk => hs.trans i hir j hj k hk) (hkn j (hs.sub i hir j hj) (hDl j hj)).2
      have hsame := same_looks hs hsz hag (fun k hk => hs.sub i hir k hk) hir (fun j hj => hj) ho
      obtain ⟨o', ho', hsel⟩ := hs.sel i hir
      rw [ho] at ho'; cases ho'
      have hexec := exec_congr hsel hsame
      have hwant := wanted_congr hsame
      -- what is known stays known when i is written
      have keep : ∀ (v : Value) (w' : World), S w w' → ∀ k ∈ rem, k ≠ i → listed.getD k false = true → Kn P ops C sp k (a.put o.dst v) w' := by
        intro v w' hS k hk hki hkl
        have h0 := (hkn k hk hkl).2
        have hDk := (hkn k hk hkl).1
        unfold Kn at h0 ⊢
        cases hok : ops[k]? with
        | none => trivial
        | some ok =>
          simp only [hok] at h0 ⊢
          have hdk : dstOf ops k = ok.dst := by simp [dstOf, hok]
          have hdi : dstOf ops i = o.dst := by simp [dstOf, ho]
          have hget : getD' (a.put o.dst v) ok.dst = getD' a ok.dst := by
            cases hd : ok.dst with
            | none => rfl
            | some d =>
              cases hd2 : o.dst with
              | none => rfl
              | some d2 =>
                have hne : d2 ≠ d := fun e => hki (hs.once k hk i hir d (by rw [hdk, hd]) (by rw [hdi, hd2, e]))
                simp [getD', Act.put, Array.getElem?_setIfInBounds_ne hne]
          have hlook : ∀ t ∈ ok.looksAt ops, (a.put o.dst v).tmps[t]? = a.tmps[t]? := by
            intro t ht
            cases hd2 : o.dst with
            | none => rfl
            | some d2 =>
              have hne : d2 ≠ t := fun e => by
                have := hs.look k hk i hir t (by rw [hdi, hd2, e]) (by simp [looks, hok, ht])
                have := hDk i this
                rw [Array.getD_eq_getD_getElem?] at this hun
                rw [Array.getElem?_eq_getElem (by omega)] at this hun
                simp at this hun
                rw [this] at hun; cases hun
              simp [Act.put, Array.getElem?_setIfInBounds_ne hne]
          cases hsp : sp k with
          | some φ => simp only [hsp] at h0 ⊢; rw [hget]; exact hmono k φ hsp _ _ _ h0 hS
          | none =>
            simp only [hsp] at h0 ⊢
            rw [hget]
            intro hd
            obtain ⟨o'', ho'', hsel'⟩ := hs.sel k hk
            rw [hok] at ho''; cases ho''
            exact (h0 hd).of_same (exec_congr hsel' hlook) (wanted_congr hlook)
      have hagree : ∀ v, Agree ops rem a1 (a.put o.dst v) := by
        intro v
        have hdi : dstOf ops i = o.dst := by simp [dstOf, ho]
        refine ⟨?_, ?_, ?_⟩
        · cases hd : o.dst <;> simpa [Act.put] using hag.1
        · cases hd : o.dst <;> simpa [Act.put] using hag.2.1
        · intro t ht
          rw [← hag.2.2 t ht]
          cases hd : o.dst with
          | none => rfl
          | some d =>
            have hne : d ≠ t := fun e => ht i hir (by rw [hdi, hd, e])
            simp [Act.put, Array.getElem?_setIfInBounds_ne hne]
      have hgeti : ∀ v, o.dst ≠ none → getD' (a.put o.dst v) o.dst = v := by
        intro v hnn
        cases hd : o.dst with
        | none => exact absurd hd hnn
        | some d =>
          have hdl : d < a.tmps.size := by rw [hag.2.1, hsz]; exact hs.fit i hir d (by simp [dstOf, ho, hd])
          simp [getD', Act.put, hdl]
      have hlist : ∀ k, (listed.setIfInBounds i true).getD k false = true → k = i ∨ listed.getD k false = true := by
        intro k hk
        by_cases hki : k = i
        · exact .inl hki
        · rw [getD_set_ne false (Ne.symm hki)] at hk; exact .inr hk
      -- the two ways
      have fresh : listed.getD i false = false := by
        rw [Array.getD_eq_getD_getElem?] at hun ⊢
        rw [Array.getElem?_eq_getElem (by omega)] at hun ⊢
        exact hun
      have fin : ∀ v w', C w' → S w w' → Kn P ops C sp i (a.put o.dst v) w' → C w' ∧ Agree ops rem a1 (a.put o.dst v) ∧ ∀ k ∈ rem, (listed.setIfInBounds i true).getD k false = true → (∀ j ∈ D k, (listed.setIfInBounds i true).getD j false = true) ∧ Kn P ops C sp k (a.put o.dst v) w' := by
        intro v w' hC' hS hki
        refine ⟨hC', hagree v, fun k hk hkl => ?_⟩
        by_cases hke : k = i
        · subst hke
          exact ⟨fun j hj => getD_set_true (hDl j hj), hki⟩
        · rcases hlist k hkl with h | h
          · exact absurd h hke
          · exact ⟨fun j hj => getD_set_true ((hkn k hk h).1 j hj), keep v w' hS k hk hke h⟩
      have hself' : ∀ v, ∀ t ∈ o.looksAt ops, (a.put o.dst v).tmps[t]? = a.tmps[t]? := by
        intro v t ht
        cases hd2 : o.dst with
        | none => rfl
        | some d2 =>
          have hne : d2 ≠ t := fun e => hself (hs.look i hir i hir t (by simp [dstOf, ho, hd2, e]) (by simp [looks, ho, ht]))
          simp [Act.put, Array.getElem?_setIfInBounds_ne hne]
      unfold Ask at hb
      unfold okStep
      simp only [ho] at hb ⊢
      cases hsp : sp i with
      | some φ =>
        simp only [hsp] at hb
        rw [hwant]
        have mk : ∀ v w', φ (if o.dst.isSome then v else undef) w' → Kn P ops C sp i (a.put o.dst v) w' := by
          intro v w' hφ
          unfold Kn
          simp only [ho, hsp]
          cases hd : o.dst with
          | none => rw [hd] at hφ; simpa [getD'] using hφ
          | some d =>
            have := hgeti v (by simp [hd])
            rw [hd] at this hφ
            rw [this]; simpa using hφ
        split
        · rename_i hw
          rw [if_pos hw] at hb
          unfold okOp at hb ⊢
          rw [hexec]
          exact okOp_mono (o := o) (a := puts ops (fun j => getD' a (dstOf ops j)) (D i) a1) (fun v w' ⟨h1, h2, h3⟩ => fin v w' h1 h2 (mk v w' h3)) hb
        · rename_i hw
          rw [if_neg hw] at hb
          exact fin undef w hC (hquiet w) (mk undef w (by simpa using hb))
      | none =>
        simp only [hsp] at hb
        obtain ⟨v, hy⟩ := hb
        have hy' : YieldsC P ops C o v a := hy.of_same hexec hwant
        have hyp : YieldsC P ops C o v (a.put o.dst v) := hy'.of_same (exec_congr hsel (hself' v)) (wanted_congr (hself' v))
        have hv : o.dst = none ∨ o.dst ≠ none := by cases o.dst <;> simp
        rcases hy' with ⟨hw, hall⟩ | ⟨hw, rfl⟩
        · rw [if_pos hw]
          refine okOp_mono (fun u w' ⟨h1, h2⟩ => ?_) (hall w hC)
          subst h1; subst h2
          refine fin u w' hC (hquiet w') ?_
          unfold Kn
          simp only [ho, hsp]
          intro hd
          rcases hv with hv | hv
          · rw [hv] at hd; cases hd
          · rw [hgeti u hv]; exact hyp
        · rw [if_neg (by rw [hw]; simp)]
          refine fin undef w hC (hquiet w) ?_
          unfold Kn
          simp only [ho, hsp]
          intro hd
          rcases hv with hv | hv
          · rw [hv] at hd; cases hd
          · rw [hgeti undef hv]; exact hyp
    induction fuel with
    | zero =>
      intro listed a w hC hlsz hag hout hkn hf
      have hfull : ∀ i ∈ rem, listed.getD i false = true := by
        intro i hi
        have : (rem.filter fun i => !listed.getD i false) = [] := List.eq_nil_of_length_eq_zero (Nat.le_zero.1 hf)
        have := List.filter_eq_nil_iff.1 this i hi
        simpa using this
      refine ⟨?_, hdone listed a w hC hag hkn hfull⟩
      apply List.eq_nil_iff_forall_not_mem.2
      intro i hi
      have hir := (hstep listed a w i hC hlsz hag hout hkn hi).1
      have h1 := hfull i hir
      have h2 := (mem_ready.1 hi).1
      have hlt := hs.lt i hir
      rw [Array.getD_eq_getD_getElem?] at h1 h2
      rw [Array.getElem?_eq_getElem (by omega)] at h1 h2
      simp at h1 h2
      rw [h1] at h2; cases h2
    | succ fuel ih =>
      intro listed a w hC hlsz hag hout hkn hf
      refine ⟨fun h0 => ?_, fun i hi => ?_⟩
      · refine hdone listed a w hC hag hkn ?_
        have hmin : ∀ n i, i ≤ n → i ∈ rem → listed.getD i false = true := by
          intro n
          induction n with
          | zero =>
            intro i hin hir
            cases hl : listed.getD i false with
            | true => rfl
            | false =>
              exfalso
              obtain ⟨o, ho, _⟩ := hs.sel i hir
              have : i ∈ Region.ready md ops listed := mem_ready.2 ⟨by
                have hlt := hs.lt i hir
                rw [Array.getD_eq_getD_getElem?] at hl ⊢
                rw [Array.getElem?_eq_getElem (by omega)] at hl ⊢
                exact hl, o, ho, fun e he hb => by have := hs.low i hir o ho e he hb; omega⟩
              rw [h0] at this; cases this
          | succ n ihn =>
            intro i hin hir
            cases hl : listed.getD i false with
            | true => rfl
            | false =>
              exfalso
              obtain ⟨o, ho, _⟩ := hs.sel i hir
              have : i ∈ Region.ready md ops listed := mem_ready.2 ⟨by
                have hlt := hs.lt i hir
                rw [Array.getD_eq_getD_getElem?] at hl ⊢
                rw [Array.getElem?_eq_getElem (by omega)] at hl ⊢
                exact hl, o, ho, fun e he hb => by
                  have hlow := hs.low i hir o ho e he hb
                  by_cases her : e.on ∈ rem
                  · exact ihn e.on (by omega) her
                  · rw [hout e.on her]
                    rcases hs.all e.on (by have := hs.lt i hir; omega) with h | h
                    · exact h
                    · exact absurd h her⟩
              rw [h0] at this; cases this
        exact fun i hi => hmin i i (Nat.le_refl _) hi
      · obtain ⟨hir, hst⟩ := hstep listed a w i hC hlsz hag hout hkn hi
        refine okStep_mono (fun a' w' ⟨h1, h2, h3⟩ => ⟨h1, ih (listed.setIfInBounds i true) a' w' h1 (by simpa using hlsz) h2 (fun k hk => ?_) h3 ?_⟩) hst
        · rw [getD_set_ne false (fun e => hk (by rw [← e]; exact hir))]; exact hout k hk
        · have hun := (mem_ready.1 hi).1
          have hfr : listed.getD i false = false := by
            have hlt := hs.lt i hir
            rw [Array.getD_eq_getD_getElem?] at hun ⊢
            rw [Array.getElem?_eq_getElem (by omega)] at hun ⊢
            exact hun
          have hsub : (rem.filter fun k => !(listed.setIfInBounds i true).getD k false) = ((rem.filter fun k => !listed.getD k false).filter fun k => k != i) := by
            rw [List.filter_filter]
            apply List.filter_congr
            intro k _
            by_cases hki : k = i
            · subst hki
              have hlt := hs.lt k hir
              have : (listed.setIfInBounds k true).getD k false = true := by simp [show k < listed.size by omega]
              rw [this]; simp
            · rw [getD_set_ne false (Ne.symm hki)]; simp [hki]
          rw [hsub]
          have : ((rem.filter fun k => !listed.getD k false).filter fun k => k != i).length < (rem.filter fun k => !listed.getD k false).length := by
            rw [List.length_filter_lt_length_iff_exists]
            exact ⟨i, List.mem_filter.2 ⟨hir, by simp [hfr]⟩, by simp⟩
          omega
  intro w hC
  refine key fuel listed0 a1 w hC hls ⟨rfl, rfl, fun _ _ => rfl⟩ (fun _ _ => rfl) (fun i hi h => ?_) ?_
  · have h2 := hs.un i hi
    have hlt := hs.lt i hi
    rw [Array.getD_eq_getD_getElem?] at h h2
    rw [Array.getElem?_eq_getElem (by omega)] at h h2
    simp at h h2
    rw [h] at h2; cases h2
  · exact Nat.le_trans (List.length_filter_le _ _) hfuel
end
end
end Go.Proofs.Ytbpgbihcihnieaa

namespace Go.Proofs.Ytbpgbihcihnieaa
section
variable {P : Program} {ops : Array Oper} {md : Region.Mode} {C : World → Prop} {Q : Act → World → Prop} {zs : List Nat}

def noZ (zs : List Nat) (L : Array Bool) : Prop := ∀ z ∈ zs, L.getD z false = false
def DC (md : Region.Mode) (ops : Array Oper) (L : Array Bool) : Prop := ∀ (k : Nat) (o : Oper), ops[k]? = some o → L.getD k false = true → ∀ e ∈ o.after, Region.binds md e = true → L.getD e.on false = true
def reachB (md : Region.Mode) (ops : Array Oper) : Nat → Nat → Nat → Bool
  | 0, _, _ => false
  | n + 1, i, z => match ops[z]? with | none => false | some o => o.after.any fun e => Region.binds md e && (e.on == i || reachB md ops n i e.on)
theorem reach_listed {L : Array Bool} (hD : DC md ops L) {i : Nat} : ∀ (n z : Nat), reachB md ops n i z = true → L.getD z false = true → L.getD i false = true
  | 0, _, h, _ => by cases h
  | n + 1, z, h, hz => by
    unfold reachB at h
    split at h
    · cases h
    · rename_i o ho
      obtain ⟨e, he, hb⟩ := Array.any_eq_true'.1 h
      simp only [Bool.and_eq_true, Bool.or_eq_true, beq_iff_eq] at hb
      have h1 := hD z o ho hz e he hb.1
      rcases hb.2 with rfl | h2
      · exact h1
      · exact reach_listed hD n e.on h2 h1
theorem DC.step {L : Array Bool} (hD : DC md ops L) {j : Nat} (hj : j ∈ Region.ready md ops L) : DC md ops (L.setIfInBounds j true) := by
  intro k o ho hk e he hb
  have hmono : ∀ m, L.getD m false = true → (L.setIfInBounds j true).getD m false = true := by
    intro m hm
    by_cases hmj : j = m
    · subst hmj
      rw [Array.getD_eq_getD_getElem?] at hm ⊢
      rcases Nat.lt_or_ge j L.size with h' | h'
      · simp [h']
      · simp [Array.getElem?_eq_none h'] at hm
    · rw [getD_set_ne false hmj]; exact hm
  by_cases hkj : j = k
  · subst hkj
    obtain ⟨_, oj, hoj, hall⟩ := mem_ready.1 hj
    rw [ho] at hoj; cases hoj
    exact hmono _ (hall e he hb)
  · rw [getD_set_ne false hkj] at hk
    exact hmono _ (hD k o ho hk e he hb)
theorem noZ.of_set {L : Array Bool} {j : Nat} (h : noZ zs (L.setIfInBounds j true)) : noZ zs L := fun z hz => by
  have h1 := h z hz
  by_cases hzj : j = z
  · subst hzj
    rw [Array.getD_eq_getD_getElem?] at h1 ⊢
    rcases Nat.lt_or_ge j L.size with h' | h'
    · simp [h'] at h1
    · simp [Array.getElem?_eq_none h']
  · rwa [getD_set_ne false hzj] at h1
theorem noZ.set {L : Array Bool} {j : Nat} (h : noZ zs L) (hj : j ∉ zs) : noZ zs (L.setIfInBounds j true) := fun z hz => by
  rw [getD_set_ne false (fun e => hj (by rw [e]; exact hz))]; exact h z hz

/-- Whatever order is picked from here on; every world on the way is one of the class, as long as none of 'zs' has come up. -/
def anyZ (P : Program) (md : Region.Mode) (ops : Array Oper) (zs : List Nat) (C : World → Prop) (Q : Act → World → Prop) : Nat → Array Bool → Act → World → Prop
  | 0, listed, a, w => Region.ready md ops listed = [] ∧ Q a w
  | fuel + 1, listed, a, w =>
    (Region.ready md ops listed = [] → Q a w) ∧
    ∀ i ∈ Region.ready md ops listed, okStep P ops i (fun a' w' => (noZ zs (listed.setIfInBounds i true) → C w') ∧ anyZ P md ops zs C Q fuel (listed.setIfInBounds i true) a' w') a w
theorem wpAny_of_anyZ {Q' : Exit → Act → World → Prop} (hQ : ∀ a w, Q a w → Q' .normal a w) : ∀ (fuel : Nat) (listed : Array Bool) (a : Act) (w : World),
    anyZ P md ops zs C Q fuel listed a w → wpAny P md ops Q' fuel listed a w
  | 0, _, _, _, h => ⟨h.1, hQ _ _ h.2⟩
  | fuel + 1, _, _, _, h => ⟨fun h0 => hQ _ _ (h.1 h0), fun i hi => wpOp_of_okStep (okStep_mono (fun a' w' h' => wpAny_of_anyZ hQ fuel _ a' w' h'.2) (h.2 i hi))⟩
theorem anyZ_mono {C' : World → Prop} : ∀ (fuel : Nat) (listed : Array Bool) (a : Act) (w : World), (noZ zs listed → ∀ w, C w → C' w) → anyZ P md ops zs C Q fuel listed a w → anyZ P md ops zs C' Q fuel listed a w
  | 0, _, _, _, _, hh => hh
  | fuel + 1, _, _, _, h, hh => ⟨hh.1, fun i hi => okStep_mono (fun a' w' ⟨h1, h2⟩ => ⟨fun hn => h hn.of_set _ (h1 hn), anyZ_mono fuel _ a' w' (fun hn => h hn.of_set) h2⟩) (hh.2 i hi)⟩

theorem anyZ_first {C' : World → Prop} {i : Nat} {oi : Oper} {v : Value} (hi : ops[i]? = some oi) (hsel : ∀ (j : Nat) (o : Oper) cs b, ops[j]? = some o → o.op ≠ .select cs b) (hz : i ∉ zs)
    (hcl : ∀ (L : Array Bool) w, DC md ops L → L.getD i true = false → (noZ zs L → C w) → C' w) :
    ∀ (fuel : Nat) (listed : Array Bool) (a : Act), DC md ops listed →
      (∀ j oj, ops[j]? = some oj → j ≠ i → listed.getD j true = false → (∀ e ∈ oj.after, Region.binds md e = true → e.on ≠ i) → oi.apart ops oj = true) →
      i ∈ Region.ready md ops listed → YieldsC P ops C' oi v a → ∀ w, (noZ zs listed → C w) →
      anyZ P md ops zs C Q fuel (listed.setIfInBounds i true) (a.put oi.dst v) w → anyZ P md ops zs C Q (fuel + 1) listed a w := by
  intro fuel
  induction fuel with
  | zero =>
    intro listed a hD _ hr hy w hC H
    refine ⟨fun h => (by rw [h] at hr; cases hr), fun j hj => ?_⟩
    by_cases hji : j = i
    · subst hji; exact hy.step hi (hcl listed w hD (mem_ready.1 hr).1 hC) ⟨fun hn => hC hn.of_set, H⟩
    · have := ready_mono hj hji
      rw [H.1] at this
      cases this
  | succ fuel ih =>
    intro listed a hD hfree hr hy w hC H
    refine ⟨fun h => (by rw [h] at hr; cases hr), fun j hj => ?_⟩
    by_cases hji : j = i
    · subst hji; exact hy.step hi (hcl listed w hD (mem_ready.1 hr).1 hC) ⟨fun hn => hC hn.of_set, H⟩
    · have h1 := H.2 j (ready_mono hj hji)
      obtain ⟨hjun, oj, hoj, hall⟩ := mem_ready.1 hj
      have hnot : ∀ e ∈ oj.after, Region.binds md e = true → e.on ≠ i := fun e he hb heq => by
        have h1 := hall e he hb
        have h0 := (mem_ready.1 hr).1
        rw [heq] at h1
        rcases Nat.lt_or_ge i listed.size with h' | h'
        · simp [h'] at h0 h1; rw [h0] at h1; cases h1
        · simp [Array.getElem?_eq_none h'] at h1
      have h2 := okStep_put hoj (hfree j oj hoj hji hjun hnot) (fun cs b => hsel i oi cs b hi) (fun cs b => hsel j oj cs b hoj) hy h1
      have hfree' : ∀ k ok, ops[k]? = some ok → k ≠ i → (listed.setIfInBounds j true).getD k true = false →
          (∀ e ∈ ok.after, Region.binds md e = true → e.on ≠ i) → oi.apart ops ok = true := fun k ok hk hki hun hno => by
        refine hfree k ok hk hki ?_ hno
        by_cases hjk : j = k
        · subst hjk; exact hjun
        · rw [getD_set_ne true hjk] at hun; exact hun
      refine okStep_mono (fun a' w' h3 => ?_) h2
      have hC' : noZ zs (listed.setIfInBounds j true) → C w' := fun hn => h3.2.1 (by rw [Array.setIfInBounds_comm _ _ (Ne.symm hji)]; exact hn.set hz)
      refine ⟨hC', ih (listed.setIfInBounds j true) a' (hD.step hj) hfree' (ready_mono hr (Ne.symm hji)) h3.1 w' hC' ?_⟩
      rw [Array.setIfInBounds_comm _ _ hji]
      exact h3.2.2

/-- Operation number i, walked in whatever world of its class C', leaves that world and the frame a'. -/
theorem take_walkZ {C' : World → Prop} {i : Nat} {oi : Oper} {fuel : Nat} {listed : Array Bool} {a a' : Act} {w0 : World} (hi : ops[i]? = some oi)
    (hB : (Region.noSelect ops && (Region.free md ops listed i && (Region.ready md ops listed).contains i)) = true) (hz : i ∉ zs) (hw0 : C' w0)
    (hcl : ∀ (L : Array Bool) w, DC md ops L → L.getD i true = false → (noZ zs L → C w) → C' w) (hD : DC md ops listed)
    (hd : (match oi.dst with | some d => decide (d < a.tmps.size) | none => false) = true)
    (hv : ∀ w, C' w → ∀ K : Act → World → Prop, K a' w → wpList P ops (OnK K) [oi] a w) (hdf : a'.defers = a.defers) :
    ∀ w, (noZ zs listed → C w) → anyZ P md ops zs C Q fuel (listed.setIfInBounds i true) a' w → anyZ P md ops zs C Q (fuel + 1) listed a w := by
  rw [Bool.and_eq_true, Bool.and_eq_true] at hB
  obtain ⟨hsel, hfree, hrd⟩ := hB
  have hrd' : i ∈ Region.ready md ops listed := by simpa using hrd
  -- what the walk shows
  have key : ∀ w, C' w → if Region.wanted oi (yielded ops a.tmps) then okOp P oi a w (fun u w' => a.put oi.dst u = a' ∧ w' = w) else a.put oi.dst undef = a' := by
    intro w hC
    have h1 := okOp_of_wp (P := P) (ops := ops) (o := oi) (a := a) (w := w) (K := fun x y => x = a' ∧ y = w) (fun x y hk => by rw [hk.1, hdf]) (hv w hC _ ⟨rfl, rfl⟩)
    split
    · rename_i hw; rw [if_pos hw] at h1; exact h1
    · rename_i hw; rw [if_neg hw] at h1; exact h1.1
  -- one value for all worlds
  have hval : ∃ v, a' = a.put oi.dst v := by
    have h1 := key w0 hw0
    split at h1
    · unfold okOp at h1
      generalize (execOp a.eval oi).run P w0 = r at *
      cases r with
      | ok n w' =>
        cases n <;> simp only [okUpon] at h1
        case value v => exact ⟨v, h1.1.symm⟩
        case skip => exact ⟨undef, h1.1.symm⟩
        case enter f args =>
          obtain ⟨e, w'', fr, ⟨v, _, hv, _⟩, _⟩ := h1 []
          exact ⟨v, hv.symm⟩
        case row row args =>
          obtain ⟨v, w'', ⟨hv, _⟩, _⟩ := h1 default []
          exact ⟨v, hv.symm⟩
      | halt x w' => simp only [okUpon] at h1
    · exact ⟨undef, h1.symm⟩
  obtain ⟨v, rfl⟩ := hval
  cases hdd : oi.dst with
  | none => rw [hdd] at hd; cases hd
  | some d =>
    have hinj : ∀ u, a.put oi.dst u = a.put oi.dst v → u = v := by
      intro u hu
      rw [hdd] at hu hd
      have hd' : d < a.tmps.size := by simpa using hd
      have h1 : (a.put (some d) u).tmps[d]? = (a.put (some d) v).tmps[d]? := by rw [hu]
      simpa [Act.put, hd'] using h1
    intro w hC H
    refine anyZ_first (C' := C') (v := v) hi (Region.noSelect_spec hsel) hz hcl fuel listed a hD (Region.free_spec hi hfree) hrd' ?_ w hC (by rw [hdd]; exact H)
    by_cases hw : Region.wanted oi (yielded ops a.tmps) = true
    · refine .inl ⟨hw, fun w1 hC1 => ?_⟩
      have h1 := key w1 hC1
      rw [if_pos hw] at h1
      exact okOp_mono (fun u w2 ⟨e1, e2⟩ => ⟨hinj u e1, e2⟩) h1
    · refine .inr ⟨by simpa using hw, ?_⟩
      have h1 := key w0 hw0
      rw [if_neg hw] at h1
      exact (hinj undef h1).symm
theorem noZ_of_reach {L : Array Bool} {i : Nat} (hD : DC md ops L) (hun : L.getD i true = false) (hr : zs.all (reachB md ops ops.size i) = true) : noZ zs L := fun z hz => by
  cases h : L.getD z false with
  | false => rfl
  | true =>
    have h1 := reach_listed hD ops.size z (List.all_eq_true.1 hr z hz) h
    rw [Array.getD_eq_getD_getElem?] at h1 hun
    rcases Nat.lt_or_ge i L.size with h' | h'
    · simp [h'] at h1 hun; rw [h1] at hun; cases hun
    · simp [Array.getElem?_eq_none h'] at h1

/-- As long as none of 'zs' has come up: in whatever world that has only grown since w0. -/
def AnyZ (P : Program) (ops : Array Oper) (zs : List Nat) (Q : Act → World → Prop) (fuel : Nat) (listed : Array Bool) (a : Act) (w0 : World) : Prop :=
  DC .any ops listed → ∀ w, RowKit.Below w0.heap.size w0 w → anyZ P .any ops zs (fun w => RowKit.Below w0.heap.size w0 w) Q fuel listed a w
/-- In this world, whatever comes of it. -/
def AnyW (P : Program) (ops : Array Oper) (zs : List Nat) (Q : Act → World → Prop) (fuel : Nat) (listed : Array Bool) (a : Act) (w : World) : Prop :=
  DC .any ops listed → anyZ P .any ops zs (fun _ => True) Q fuel listed a w

theorem AnyZ.start {id n : Nat} {Q' : Exit → Act → World → Prop} {a : Act} {w : World} {l : List Oper} (zs : List Nat) (hm : P.follows .mixedOrders = true) (hn : l.length = n)
    (h : AnyZ P l.toArray zs (fun a w => Q' .normal a w) n (Array.replicate n false) a w) : (Code.region id l.toArray true).wp P Q' a w := by
  subst hn
  have hD : DC .any l.toArray (Array.replicate l.length false) := fun k o _ hk => by
    rw [Array.getD_eq_getD_getElem?] at hk
    rcases Nat.lt_or_ge k l.length with h' | h'
    · simp [h'] at hk
    · simp [h'] at hk
  refine wp_region_any hm (wpAny_of_anyZ (zs := zs) (C := fun w' => RowKit.Below w.heap.size w w') (fun _ _ h => h) _ _ _ _ ?_)
  simpa using h hD { w with drawn := w.drawn + 1 } ⟨rfl, rfl, rfl, Nat.le_refl _, fun _ _ => rfl⟩
/-- A quiet operation that all of 'zs' wait for. -/
theorem AnyZ.take {i : Nat} {oi : Oper} {fuel : Nat} {listed : Array Bool} {a a' : Act} {w0 : World} (hi : ops[i]? = some oi)
    (hB : (Region.noSelect ops && (Region.free .any ops listed i && (Region.ready .any ops listed).contains i)) = true)
    (hZ : (zs.all (reachB .any ops ops.size i) && !zs.contains i) = true)
    (hd : (match oi.dst with | some d => decide (d < a.tmps.size) | none => false) = true)
    (hv : ∀ w, RowKit.Below w0.heap.size w0 w → ∀ K : Act → World → Prop, K a' w → wpList P ops (OnK K) [oi] a w) (hdf : a'.defers = a.defers)
    (h : AnyZ P ops zs Q fuel (listed.setIfInBounds i true) a' w0) : AnyZ P ops zs Q (fuel + 1) listed a w0 := by
  rw [Bool.and_eq_true] at hZ
  have hB' := hB
  rw [Bool.and_eq_true, Bool.and_eq_true] at hB'
  have hrd : i ∈ Region.ready .any ops listed := by simpa using hB'.2.2
  intro hD w hw
  exact take_walkZ (C := fun w => RowKit.Below w0.heap.size w0 w) (C' := fun w => RowKit.Below w0.heap.size w0 w) hi hB (by simpa using hZ.2) (RowKit.Below.refl _ _)
    (fun L w hDL hun hc => hc (noZ_of_reach hDL hun hZ.1)) hD hd hv hdf w (fun _ => hw) (h (hD.step hrd) w hw)
/-- A quiet operation that looks at no world. -/
theorem AnyZ.pure {i : Nat} {oi : Oper} {fuel : Nat} {listed : Array Bool} {a a' : Act} {w0 : World} (hi : ops[i]? = some oi)
    (hB : (Region.noSelect ops && (Region.free .any ops listed i && (Region.ready .any ops listed).contains i)) = true) (hZ : (!zs.contains i) = true)
    (hd : (match oi.dst with | some d => decide (d < a.tmps.size) | none => false) = true)
    (hv : ∀ w, ∀ K : Act → World → Prop, K a' w → wpList P ops (OnK K) [oi] a w) (hdf : a'.defers = a.defers)
    (h : AnyZ P ops zs Q fuel (listed.setIfInBounds i true) a' w0) : AnyZ P ops zs Q (fuel + 1) listed a w0 := by
  have hB' := hB
  rw [Bool.and_eq_true, Bool.and_eq_true] at hB'
  have hrd : i ∈ Region.ready .any ops listed := by simpa using hB'.2.2
  intro hD w hw
  exact take_walkZ (C := fun w => RowKit.Below w0.heap.size w0 w) (C' := fun _ => True) (w0 := w0) hi hB (by simpa using hZ) trivial (fun _ _ _ _ _ => trivial) hD hd (fun w _ => hv w) hdf w (fun _ => hw) (h (hD.step hrd) w hw)
theorem AnyW.pure {i : Nat} {oi : Oper} {fuel : Nat} {listed : Array Bool} {a a' : Act} {w : World} (hi : ops[i]? = some oi)
    (hB : (Region.noSelect ops && (Region.free .any ops listed i && (Region.ready .any ops listed).contains i)) = true) (hZ : (!zs.contains i) = true)
    (hd : (match oi.dst with | some d => decide (d < a.tmps.size) | none => false) = true)
    (hv : ∀ w, ∀ K : Act → World → Prop, K a' w → wpList P ops (OnK K) [oi] a w) (hdf : a'.defers = a.defers)
    (h : AnyW P ops zs Q fuel (listed.setIfInBounds i true) a' w) : AnyW P ops zs Q (fuel + 1) listed a w := by
  have hB' := hB
  rw [Bool.and_eq_true, Bool.and_eq_true] at hB'
  have hrd : i ∈ Region.ready .any ops listed := by simpa using hB'.2.2
  intro hD
  exact take_walkZ (C := fun _ => True) (C' := fun _ => True) (w0 := w) hi hB (by simpa using hZ) trivial (fun _ _ _ _ _ => trivial) hD hd (fun w _ => hv w) hdf w (fun _ => trivial) (h (hD.step hrd))
theorem AnyZ.again {fuel : Nat} {listed : Array Bool} {a : Act} {w0 w : World} (hD : DC .any ops listed) (hw : RowKit.Below w0.heap.size w0 w) (h : AnyZ P ops zs Q fuel listed a w) : anyZ P .any ops zs (fun w => RowKit.Below w0.heap.size w0 w) Q fuel listed a w :=
  anyZ_mono _ _ _ _ (fun _ _ h' => hw.trans (h'.mono hw.size)) (h hD w (RowKit.Below.refl _ _))
/-- The only operation that may come up now: walked as it stands; it only makes memory. -/
def SoloZ (P : Program) (ops : Array Oper) (zs : List Nat) (Q : Act → World → Prop) (fuel : Nat) (listed : Array Bool) (df : List Deferred) (w0 : World) (a' : Act) (w' : World) : Prop :=
  a'.defers = df ∧ RowKit.Below w0.heap.size w0 w' ∧ AnyZ P ops zs Q fuel listed a' w'
theorem AnyZ.solo {i : Nat} {oi : Oper} {fuel : Nat} {listed : Array Bool} {a : Act} {w0 : World} (hi : ops[i]? = some oi) (hr : (Region.ready .any ops listed == [i]) = true)
    (h : ∀ w, RowKit.Below w0.heap.size w0 w → wpList P ops (OnK (SoloZ P ops zs Q fuel (listed.setIfInBounds i true) a.defers w0)) [oi] a w) : AnyZ P ops zs Q (fuel + 1) listed a w0 := by
  intro hD w hw
  have hr' : Region.ready .any ops listed = [i] := by simpa using hr
  have hD' := hD.step (j := i) (by rw [hr']; simp)
  refine ⟨fun h0 => (by rw [hr'] at h0; cases h0), fun j hj => ?_⟩
  rw [hr'] at hj
  obtain rfl : j = i := by simpa using hj
  have h1 := okOp_of_wp (fun a' w' hk => hk.1) (h w hw)
  unfold okStep
  simp only [hi]
  split
  · rename_i hw1
    rw [if_pos hw1] at h1
    exact okOp_mono (fun v w' ⟨_, h2, h3⟩ => ⟨fun _ => h2, h3.again hD' h2⟩) h1
  · rename_i hw1
    rw [if_neg hw1] at h1
    exact ⟨fun _ => h1.2.1, h1.2.2.again hD' h1.2.1⟩
/-- The only one that may come up now, one of 'zs': walked as it stands; whatever it turns. -/
def SoloW (P : Program) (ops : Array Oper) (zs : List Nat) (Q : Act → World → Prop) (fuel : Nat) (listed : Array Bool) (df : List Deferred) (a' : Act) (w' : World) : Prop :=
  a'.defers = df ∧ AnyW P ops zs Q fuel listed a' w'
theorem AnyW.again {fuel : Nat} {listed : Array Bool} {a : Act} {w : World} (hD : DC .any ops listed) (hn : ¬ noZ zs listed) (h : AnyW P ops zs Q fuel listed a w) : anyZ P .any ops zs C Q fuel listed a w :=
  anyZ_mono _ _ _ _ (fun h' => absurd h' hn) (h hD)
theorem no_noZ {listed : Array Bool} {i : Nat} (hz : i ∈ zs) (hi : i ∈ Region.ready md ops listed) : ¬ noZ zs (listed.setIfInBounds i true) := fun h => by
  have h1 := h i hz
  have h0 := (mem_ready.1 hi).1
  rw [Array.getD_eq_getD_getElem?] at h1 h0
  rcases Nat.lt_or_ge i listed.size with h' | h'
  · simp [h'] at h1
  · simp [Array.getElem?_eq_none h'] at h0
theorem AnyZ.soloW {i : Nat} {oi : Oper} {fuel : Nat} {listed : Array Bool} {a : Act} {w0 : World} (hi : ops[i]? = some oi) (hr : (Region.ready .any ops listed == [i] && zs.contains i) = true)
    (h : ∀ w, RowKit.Below w0.heap.size w0 w → wpList P ops (OnK (SoloW P ops zs Q fuel (listed.setIfInBounds i true) a.defers)) [oi] a w) : AnyZ P ops zs Q (fuel + 1) listed a w0 := by
  intro hD w hw
  rw [Bool.and_eq_true] at hr
  have hr' : Region.ready .any ops listed = [i] := by simpa using hr.1
  have hir : i ∈ Region.ready .any ops listed := by rw [hr']; simp
  have hnz := no_noZ (zs := zs) (by simpa using hr.2) hir
  refine ⟨fun h0 => (by rw [hr'] at h0; cases h0), fun j hj => ?_⟩
  rw [hr'] at hj
  obtain rfl : j = i := by simpa using hj
  have h1 := okOp_of_wp (fun a' w' hk => hk.1) (h w hw)
  unfold okStep
  simp only [hi]
  split
  · rename_i hw1
    rw [if_pos hw1] at h1
    exact okOp_mono (fun v w' ⟨_, h3⟩ => ⟨fun hn => absurd hn hnz, h3.again (hD.step hir) hnz⟩) h1
  · rename_i hw1
    rw [if_neg hw1] at h1
    exact ⟨fun hn => absurd hn hnz, h1.2.again (hD.step hir) hnz⟩
theorem AnyW.solo {i : Nat} {oi : Oper} {fuel : Nat} {listed : Array Bool} {a : Act} {w : World} (hi : ops[i]? = some oi) (hr : (Region.ready .any ops listed == [i]) = true)
    (h : wpList P ops (OnK (SoloW P ops zs Q fuel (listed.setIfInBounds i true) a.defers)) [oi] a w) : AnyW P ops zs Q (fuel + 1) listed a w := by
  intro hD
  have hr' : Region.ready .any ops listed = [i] := by simpa using hr
  have hir : i ∈ Region.ready .any ops listed := by rw [hr']; simp
  refine ⟨fun h0 => (by rw [hr'] at h0; cases h0), fun j hj => ?_⟩
  rw [hr'] at hj
  obtain rfl : j = i := by simpa using hj
  have h1 := okOp_of_wp (fun a' w' hk => hk.1) h
  unfold okStep
  simp only [hi]
  split
  · rename_i hw1
    rw [if_pos hw1] at h1
    exact okOp_mono (fun v w' ⟨_, h3⟩ => ⟨fun _ => trivial, h3 (hD.step hir)⟩) h1
  · rename_i hw1
    rw [if_neg hw1] at h1
    exact ⟨fun _ => trivial, h1.2 (hD.step hir)⟩
theorem AnyW.done {listed : Array Bool} {a : Act} {w : World} (hr : (Region.ready .any ops listed).isEmpty = true) (h : Q a w) : AnyW P ops zs Q 0 listed a w :=
  fun _ => ⟨by simpa using hr, h⟩
theorem AnyZ.done {listed : Array Bool} {a : Act} {w0 : World} (hr : (Region.ready .any ops listed).isEmpty = true) (h : ∀ w, RowKit.Below w0.heap.size w0 w → Q a w) : AnyZ P ops zs Q 0 listed a w0 :=
  fun _ w hw => ⟨by simpa using hr, h w hw⟩
end
end Go.Proofs.Ytbpgbihcihnieaa

namespace Go.Proofs.Ytbpgbihcihnieaa
section
variable {P : Program} {ops : Array Oper} {Q : Act → World → Prop} {C : World → Prop}
def AnyC (P : Program) (ops : Array Oper) (C : World → Prop) (Q : Act → World → Prop) (fuel : Nat) (listed : Array Bool) (a : Act) (w : World) : Prop :=
  DC .any ops listed → C w ∧ anyZ P .any ops [] C Q fuel listed a w
theorem AnyC.start {id n : Nat} {Q' : Exit → Act → World → Prop} {a : Act} {w : World} {l : List Oper} (C : World → Prop) (hm : P.follows .mixedOrders = true) (hn : l.length = n)
    (h : AnyC P l.toArray C (fun a w => Q' .normal a w) n (Array.replicate n false) a { w with drawn := w.drawn + 1 }) : (Code.region id l.toArray true).wp P Q' a w := by
  subst hn
  have hD : DC .any l.toArray (Array.replicate l.length false) := fun k o _ hk => by
    rw [Array.getD_eq_getD_getElem?] at hk
    rcases Nat.lt_or_ge k l.length with h' | h'
    · simp [h'] at hk
    · simp [h'] at hk
  refine wp_region_any hm (wpAny_of_anyZ (zs := []) (C := C) (fun _ _ h => h) _ _ _ _ ?_)
  simpa using (h hD).2
theorem AnyC.take {i : Nat} {oi : Oper} {fuel : Nat} {listed : Array Bool} {a a' : Act} {w : World} (hi : ops[i]? = some oi)
    (hB : (Region.noSelect ops && (Region.free .any ops listed i && (Region.ready .any ops listed).contains i)) = true)
    (hd : (match oi.dst with | some d => decide (d < a.tmps.size) | none => false) = true)
    (hv : ∀ w, C w → ∀ K : Act → World → Prop, K a' w → wpList P ops (OnK K) [oi] a w) (hdf : a'.defers = a.defers)
    (h : AnyC P ops C Q fuel (listed.setIfInBounds i true) a' w) : AnyC P ops C Q (fuel + 1) listed a w := by
  have hB' := hB
  rw [Bool.and_eq_true, Bool.and_eq_true] at hB'
  have hrd : i ∈ Region.ready .any ops listed := by simpa using hB'.2.2
  intro hD
  have h1 := h (hD.step hrd)
  exact ⟨h1.1, take_walkZ (zs := []) (C := C) (C' := C) hi hB (by simp) h1.1
    (fun L w _ _ hc => hc (fun z hz => by cases hz)) hD hd hv hdf w (fun _ => h1.1) h1.2⟩
def SoloC (P : Program) (ops : Array Oper) (C : World → Prop) (Q : Act → World → Prop) (fuel : Nat) (listed : Array Bool) (df : List Deferred) (a' : Act) (w' : World) : Prop :=
  a'.defers = df ∧ AnyC P ops C Q fuel listed a' w'
theorem AnyC.solo {i : Nat} {oi : Oper} {fuel : Nat} {listed : Array Bool} {a : Act} {w : World} (hi : ops[i]? = some oi) (hr : (Region.ready .any ops listed == [i]) = true) (hb : C w)
    (h : wpList P ops (OnK (SoloC P ops C Q fuel (listed.setIfInBounds i true) a.defers)) [oi] a w) : AnyC P ops C Q (fuel + 1) listed a w := by
  intro hD
  have hr' : Region.ready .any ops listed = [i] := by simpa using hr
  have hir : i ∈ Region.ready .any ops listed := by rw [hr']; simp
  refine ⟨hb, fun h0 => (by rw [hr'] at h0; cases h0), fun j hj => ?_⟩
  rw [hr'] at hj
  obtain rfl : j = i := by simpa using hj
  have h1 := okOp_of_wp (fun a' w' hk => hk.1) h
  unfold okStep
  simp only [hi]
  split
  · rename_i hw1
    rw [if_pos hw1] at h1
    exact okOp_mono (fun v w' ⟨_, h3⟩ => ⟨fun _ => (h3 (hD.step hir)).1, (h3 (hD.step hir)).2⟩) h1
  · rename_i hw1
    rw [if_neg hw1] at h1
    exact ⟨fun _ => (h1.2 (hD.step hir)).1, (h1.2 (hD.step hir)).2⟩
theorem AnyC.done {listed : Array Bool} {a : Act} {w : World} (hb : C w) (hr : (Region.ready .any ops listed).isEmpty = true) (h : Q a w) : AnyC P ops C Q 0 listed a w :=
  fun _ => ⟨hb, by simpa using hr, h⟩
end
end Go.Proofs.Ytbpgbihcihnieaa

namespace Go.Proofs.Ytbpgbihcihnieaa
section
variable {P : Program} {ops : Array Oper} {Q : Act → World → Prop} {C : World → Prop}
theorem AnyC.startR {id n : Nat} {Q' : Exit → Act → World → Prop} {a : Act} {w : World} {l : List Oper} (C : World → Prop) (R : Act → World → Prop) (hm : P.follows .mixedOrders = true) (hn : l.length = n)
    (h : AnyC P l.toArray C R n (Array.replicate n false) a { w with drawn := w.drawn + 1 }) (hR : ∀ a w, R a w → Q' .normal a w) : (Code.region id l.toArray true).wp P Q' a w := by
  subst hn
  have hD : DC .any l.toArray (Array.replicate l.length false) := fun k o _ hk => by
    rw [Array.getD_eq_getD_getElem?] at hk
    rcases Nat.lt_or_ge k l.length with h' | h'
    · simp [h'] at hk
    · simp [h'] at hk
  refine wp_region_any hm (wpAny_of_anyZ (zs := []) (C := C) (Q := R) hR _ _ _ _ ?_)
  simpa using (h hD).2
theorem AnyC.step {i : Nat} {oi : Oper} {fuel : Nat} {listed : Array Bool} {a : Act} {w : World} (hi : ops[i]? = some oi) (hD : DC .any ops listed) (hir : i ∈ Region.ready .any ops listed)
    (h : wpList P ops (OnK (SoloC P ops C Q fuel (listed.setIfInBounds i true) a.defers)) [oi] a w) :
    okStep P ops i (fun a' w' => (noZ [] (listed.setIfInBounds i true) → C w') ∧ anyZ P .any ops [] C Q fuel (listed.setIfInBounds i true) a' w') a w := by
  have h1 := okOp_of_wp (fun a' w' hk => hk.1) h
  unfold okStep
  simp only [hi]
  split
  · rename_i hw1
    rw [if_pos hw1] at h1
    exact okOp_mono (fun v w' ⟨_, h3⟩ => ⟨fun _ => (h3 (hD.step hir)).1, (h3 (hD.step hir)).2⟩) h1
  · rename_i hw1
    rw [if_neg hw1] at h1
    exact ⟨fun _ => (h1.2 (hD.step hir)).1, (h1.2 (hD.step hir)).2⟩
theorem AnyC.two {i j : Nat} {oi oj : Oper} {fuel : Nat} {listed : Array Bool} {a : Act} {w : World} (hi : ops[i]? = some oi) (hj : ops[j]? = some oj) (hr : (Region.ready .any ops listed == [i, j]) = true) (hb : C w)
    (h : wpList P ops (OnK (SoloC P ops C Q fuel (listed.setIfInBounds i true) a.defers)) [oi] a w)
    (h' : wpList P ops (OnK (SoloC P ops C Q fuel (listed.setIfInBounds j true) a.defers)) [oj] a w) : AnyC P ops C Q (fuel + 1) listed a w := by
  intro hD
  have hr' : Region.ready .any ops listed = [i, j] := by simpa using hr
  refine ⟨hb, fun h0 => (by rw [hr'] at h0; cases h0), fun k hk => ?_⟩
  have hir := hk
  rw [hr'] at hk
  rcases List.mem_cons.1 hk with rfl | hk
  · exact AnyC.step hi hD hir h
  · obtain rfl : k = j := by simpa using hk
    exact AnyC.step hj hD hir h'
theorem AnyC.three {i j m : Nat} {oi oj om : Oper} {fuel : Nat} {listed : Array Bool} {a : Act} {w : World} (hi : ops[i]? = some oi) (hj : ops[j]? = some oj) (hm : ops[m]? = some om) (hr : (Region.ready .any ops listed == [i, j, m]) = true) (hb : C w)
    (h : wpList P ops (OnK (SoloC P ops C Q fuel (listed.setIfInBounds i true) a.defers)) [oi] a w)
    (h' : wpList P ops (OnK (SoloC P ops C Q fuel (listed.setIfInBounds j true) a.defers)) [oj] a w)
    (h'' : wpList P ops (OnK (SoloC P ops C Q fuel (listed.setIfInBounds m true) a.defers)) [om] a w) : AnyC P ops C Q (fuel + 1) listed a w := by
  intro hD
  have hr' : Region.ready .any ops listed = [i, j, m] := by simpa using hr
  refine ⟨hb, fun h0 => (by rw [hr'] at h0; cases h0), fun k hk => ?_⟩
  have hir := hk
  rw [hr'] at hk
  rcases List.mem_cons.1 hk with rfl | hk
  · exact AnyC.step hi hD hir h
  · rcases List.mem_cons.1 hk with rfl | hk
    · exact AnyC.step hj hD hir h'
    · obtain rfl : k = m := by simpa using hk
      exact AnyC.step hm hD hir h''
end
end Go.Proofs.Ytbpgbihcihnieaa

namespace Go.Proofs.Ytbpgbihcihnieaa
section
variable {P : Program} {ops : Array Oper} {C : World → Prop} {Q : Act → World → Prop}
def setD (d : Nat → Bool) : List Nat → Array Bool → Array Bool
  | [], L => L
  | i :: r, L => setD d r (if d i then L.setIfInBounds i true else L)
theorem setD_size (d : Nat → Bool) : ∀ (T : List Nat) (L : Array Bool), (setD d T L).size = L.size
  | [], _ => rfl
  | i :: r, L => by
    unfold setD
    rw [setD_size d r]
    split <;> simp
theorem setD_at (d : Nat → Bool) : ∀ (T : List Nat) (L : Array Bool) (x : Nat), x < L.size → (setD d T L).getD x false = ((T.contains x && d x) || L.getD x false)
  | [], L, x, _ => by simp [setD]
  | i :: r, L, x, hx => by
    unfold setD
    have hsz : x < (if d i then L.setIfInBounds i true else L).size := by
      cases hd : d i with
      | true => simp only [if_true, Array.size_setIfInBounds]; exact hx
      | false => simp only [Bool.false_eq_true, if_false]; exact hx
    rw [setD_at d r _ x hsz]
    by_cases hix : i = x
    · subst hix
      cases hd : d i with
      | true => simp [Array.getD_eq_getD_getElem?, hx]
      | false => simp
    · have h1 : (if d i = true then L.setIfInBounds i true else L).getD x false = L.getD x false := by
        cases hd : d i with
        | true => simp only [if_true]; exact getD_set_ne false hix
        | false => simp only [Bool.false_eq_true, if_false]
      rw [h1]
      have h2 : (i :: r).contains x = r.contains x := by
        rw [List.contains_cons]
        have : (x == i) = false := by simp; exact fun e => hix e.symm
        rw [this, Bool.false_or]
      rw [h2]
theorem getD_ext {A B : Array Bool} (hs : A.size = B.size) (h : ∀ x, x < A.size → A.getD x false = B.getD x false) : A = B := by
  apply Array.ext hs
  intro i h1 h2
  have h3 := h i h1
  simpa [Array.getD_eq_getD_getElem?, h1, h2] using h3
/-- What an operation waits for has come up. -/
def closedB (ops : Array Oper) (L : Array Bool) : Bool := (List.range ops.size).all fun k => match ops[k]? with | none => true | some o => !L.getD k false || o.after.all fun e => !Region.binds .any e || L.getD e.on false
theorem closed_of {L : Array Bool} (hD : DC .any ops L) : closedB ops L = true := by
  unfold closedB
  rw [List.all_eq_true]
  intro k _
  split
  · rfl
  · rename_i o ho
    rw [Bool.or_eq_true]
    cases hk : L.getD k false with
    | false => exact .inl rfl
    | true =>
      refine .inr (Array.all_eq_true'.2 fun e he => ?_)
      rw [Bool.or_eq_true]
      cases hb : Region.binds .any e with
      | false => exact .inl rfl
      | true => exact .inr (hD k o ho hk e he hb)
def goodL (ops : Array Oper) (T : List Nat) (L : Array Bool) : Bool := !closedB ops L || T.all (fun i => L.getD i false) || ((Region.ready .any ops L).all (fun j => T.contains j) && !(Region.ready .any ops L).isEmpty)
def bunchB (ops : Array Oper) (T : List Nat) : List Nat → Array Bool → Bool
  | [], L => goodL ops T L
  | i :: r, L => bunchB ops T r L && bunchB ops T r (L.setIfInBounds i true)
theorem bunchB_at {T : List Nat} (d : Nat → Bool) : ∀ (r : List Nat) (L : Array Bool), bunchB ops T r L = true → goodL ops T (setD d r L) = true
  | [], _, h => h
  | i :: r, L, h => by
    unfold bunchB at h
    rw [Bool.and_eq_true] at h
    unfold setD
    cases hd : d i with
    | true => simp only [if_true]; exact bunchB_at d r _ h.2
    | false => simp only [Bool.false_eq_true, if_false]; exact bunchB_at d r _ h.1
theorem count_step {T : List Nat} (hn : T.Nodup) {d : Nat → Bool} {j : Nat} (hj : j ∈ T) (hd : d j = false) : (T.filter fun i => !d i).length = (T.filter fun i => !(i == j || d i)).length + 1 := by
  induction T with
  | nil => cases hj
  | cons i T ih =>
    rw [List.nodup_cons] at hn
    by_cases hij : i = j
    · subst hij
      have h1 : (T.filter fun x => !(x == i || d x)) = T.filter fun x => !d x := by
        apply List.filter_congr
        intro x hx
        have : (x == i) = false := by simp; exact fun e => hn.1 (e ▸ hx)
        rw [this, Bool.false_or]
      rw [List.filter_cons_of_pos (by simp [hd]), List.filter_cons_of_neg (by simp), h1, List.length_cons]
    · have hjT : j ∈ T := by
        rcases List.mem_cons.1 hj with e | h
        · exact absurd e.symm hij
        · exact h
      have ih' := ih hn.2 hjT
      have hne : (i == j) = false := by simpa using hij
      cases hdi : d i with
      | true => rw [List.filter_cons_of_neg (by simp [hdi]), List.filter_cons_of_neg (by simp [hdi])]; exact ih'
      | false => rw [List.filter_cons_of_pos (by simp [hdi]), List.filter_cons_of_pos (by simp [hdi, hne]), List.length_cons, List.length_cons, ih']
/-- A bunch of operations in any order. J d: the invariant when those of d have come up. -/
theorem AnyC.bunch {f : Nat} {L0 : Array Bool} {a : Act} {w : World} (T : List Nat) (J : (Nat → Bool) → Act → World → Prop)
    (hnd : T.Nodup) (hb : (T.all fun i => decide (i < L0.size) && !L0.getD i true) = true) (hok : bunchB ops T T L0 = true)
    (hJC : ∀ d a w, J d a w → C w)
    (hstep : ∀ i ∈ T, ∀ oi, ops[i]? = some oi → ∀ d a w, J d a w → d i = false → (∀ j ∈ T, (oi.after.any fun e => Region.binds .any e && e.on == j) = true → d j = true) → wpList P ops (OnK (fun a' w' => a'.defers = a.defers ∧ J (fun j => j == i || d j) a' w')) [oi] a w)
    (hend : ∀ d a w, (∀ i ∈ T, d i = true) → J d a w → AnyC P ops C Q f (setD (fun _ => true) T L0) a w)
    (hJ : J (fun _ => false) a w) : AnyC P ops C Q (f + T.length) L0 a w := by
  have hbT : ∀ i ∈ T, i < L0.size ∧ L0.getD i false = false := fun i hi => by
    have h1 := List.all_eq_true.1 hb i hi
    simp only [Bool.and_eq_true, decide_eq_true_eq, Bool.not_eq_true'] at h1
    refine ⟨h1.1, ?_⟩
    have h2 := h1.2
    rw [Array.getD_eq_getD_getElem?] at h2 ⊢
    simpa [h1.1] using h2
  have key : ∀ (k : Nat) (d : Nat → Bool) (a : Act) (w : World), (T.filter fun i => !d i).length = k → J d a w → AnyC P ops C Q (f + k) (setD d T L0) a w := by
    intro k
    induction k with
    | zero =>
      intro d a w hk hJ
      have hall : ∀ i ∈ T, d i = true := fun i hi => by
        cases hd : d i with
        | true => rfl
        | false =>
          have : i ∈ T.filter fun i => !d i := List.mem_filter.2 ⟨hi, by simp [hd]⟩
          rw [List.eq_nil_of_length_eq_zero hk] at this
          cases this
      have he : setD d T L0 = setD (fun _ => true) T L0 := getD_ext (by rw [setD_size, setD_size]) fun x hx => by
        rw [setD_size] at hx
        rw [setD_at _ _ _ _ hx, setD_at _ _ _ _ hx]
        cases hc : T.contains x with
        | false => simp
        | true => rw [hall x (by simpa using hc)]
      rw [he]
      exact hend d a w hall hJ
    | succ k ih =>
      intro d a w hk hJ hD
      refine ⟨hJC d a w hJ, ?_⟩
      have hg := bunchB_at d T L0 hok
      have hex : ∃ i ∈ T, d i = false := by
        have hpos : 0 < (T.filter fun i => !d i).length := by omega
        obtain ⟨i, hi⟩ := List.exists_mem_of_length_pos hpos
        rw [List.mem_filter] at hi
        exact ⟨i, hi.1, by simpa using hi.2⟩
      have hnot : (T.all fun i => (setD d T L0).getD i false) = false := by
        obtain ⟨i, hi, hd⟩ := hex
        rw [List.all_eq_false]
        refine ⟨i, hi, ?_⟩
        rw [setD_at _ _ _ _ (hbT i hi).1, hd, (hbT i hi).2]
        simp
      unfold goodL at hg
      rw [closed_of hD, hnot, Bool.not_true, Bool.false_or, Bool.false_or, Bool.and_eq_true] at hg
      obtain ⟨hg1, hg2⟩ := hg
      have hne : Region.ready .any ops (setD d T L0) ≠ [] := fun e => by rw [e] at hg2; simp at hg2
      show anyZ P .any ops [] C Q (f + k + 1) (setD d T L0) a w
      refine ⟨fun h0 => absurd h0 hne, fun j hj => ?_⟩
      have hjT : j ∈ T := by simpa using List.all_eq_true.1 hg1 j hj
      obtain ⟨hun, oj, hoj, hdeps⟩ := mem_ready.1 hj
      have hdj : d j = false := by
        have h1 := setD_at d T L0 j (hbT j hjT).1
        have h2 : (setD d T L0).getD j false = false := by
          rw [Array.getD_eq_getD_getElem?] at hun ⊢
          have hlt : j < (setD d T L0).size := by rw [setD_size]; exact (hbT j hjT).1
          simpa [hlt] using hun
        rw [h2] at h1
        cases hd : d j with
        | false => rfl
        | true => rw [hd] at h1; simp [hjT] at h1
      have hset : (setD d T L0).setIfInBounds j true = setD (fun x => x == j || d x) T L0 := getD_ext (by simp [setD_size]) fun x hx => by
        have hx' : x < L0.size := by simpa [setD_size] using hx
        rw [setD_at _ _ _ _ hx']
        by_cases hjx : j = x
        · subst hjx
          have : T.contains j = true := by simpa using hjT
          rw [this]
          simp [Array.getD_eq_getD_getElem?, setD_size, hx']
        · rw [getD_set_ne false hjx, setD_at _ _ _ _ hx']
          have : (x == j) = false := by simp; exact fun e => hjx e.symm
          rw [this, Bool.false_or]
      have hk' : (T.filter fun i => !(i == j || d i)).length = k := by have := count_step hnd hjT hdj; omega
      have hw := hstep j hjT oj hoj d a w hJ hdj (fun i hi hany => by
        rw [Array.any_eq_true'] at hany
        obtain ⟨e, he, hb2⟩ := hany
        simp only [Bool.and_eq_true, beq_iff_eq] at hb2
        have h1 := hdeps e he hb2.1
        rw [hb2.2, setD_at _ _ _ _ (hbT i hi).1, (hbT i hi).2, Bool.or_false, Bool.and_eq_true] at h1
        exact h1.2)
      have h1 := okOp_of_wp (fun a' w' hk => hk.1) hw
      unfold okStep
      simp only [hoj]
      have hD' := hD.step hj
      rw [hset] at hD' ⊢
      split
      · rename_i hw1
        rw [if_pos hw1] at h1
        exact okOp_mono (fun v w' ⟨_, h3⟩ => ⟨fun _ => (ih _ _ _ hk' h3 hD').1, (ih _ _ _ hk' h3 hD').2⟩) h1
      · rename_i hw1
        rw [if_neg hw1] at h1
        exact ⟨fun _ => (ih _ _ _ hk' h1.2 hD').1, (ih _ _ _ hk' h1.2 hD').2⟩
  have h0 : setD (fun _ => false) T L0 = L0 := getD_ext (setD_size _ _ _) fun x hx => by
    rw [setD_size] at hx
    rw [setD_at _ _ _ _ hx]
    simp
  have := key T.length (fun _ => false) a w (by simp) hJ
  rw [h0] at this
  exact this
end
end Go.Proofs.Ytbpgbihcihnieaa

namespace Go.Proofs.Ytbpgbihcihnieaa
open Go.RowKit
section
variable {P : Program}
theorem AnyC.startB {id n : Nat} {Q' : Exit → Act → World → Prop} {a : Act} {w : World} {l : List Oper} (C : World → Prop) (hm : P.follows .mixedOrders = true) (hn : l.length = n)
    (h : ∀ w', Below w.heap.size w w' → w'.heap.size = w.heap.size → AnyC P l.toArray C (fun a w => Q' .normal a w) n (Array.replicate n false) a w') : (Code.region id l.toArray true).wp P Q' a w :=
  AnyC.start C hm hn (h { w with drawn := w.drawn + 1 } ⟨rfl, rfl, rfl, Nat.le_refl _, fun _ _ => rfl⟩ rfl)
end
theorem lt_of_heap {w : World} {b : Nat} {o : Obj} (h : w.heap[b]? = some o) : b < w.heap.size := by
  rcases Nat.lt_or_ge b w.heap.size with h' | h'
  · exact h'
  · rw [Array.getElem?_eq_none h'] at h; cases h
theorem heap_below {w w' : World} {b : Nat} {o : Obj} (h : w.heap[b]? = some o) (hb : Below w.heap.size w w') : w'.heap[b]? = some o := (hb.block _ (lt_of_heap h)).trans h
theorem there_alloc {w : World} {b o n : Nat} (h : w.there b o n) (hb : b < w.heap.size) (x : Obj) : (w.alloc x).there b o n := fun j hj => by
  have h1 := Below.heap_alloc w x b hb
  rw [World.cell?_of_block (a := ⟨b, o + j, none⟩) h1, World.frozen?_of_block (a := ⟨b, o + j, none⟩) h1]
  exact h j hj
theorem there_row {w : World} {b n : Nat} {cs : Array Value} {t : TypeId} (h : w.heap[b]? = some (.cells cs t (0, 0))) (hn : n ≤ cs.size) : w.there b 0 n := fun j hj => by
  refine ⟨?_, ?_⟩
  · rw [Nat.zero_add, cell_of_row w b j _ _ _ h, Array.getElem?_eq_getElem (by omega)]; rfl
  · simp only [World.frozen?, h]; rfl
theorem frozen_row {w : World} {b : Nat} {cs : Array Value} {t : TypeId} (h : w.heap[b]? = some (.cells cs t (0, 0))) (i : Nat) : w.frozen? ⟨b, i, none⟩ = false := by
  simp only [World.frozen?, h]; rfl
theorem there_new (w : World) (cs : Array Value) (t : TypeId) (n : Nat) (h : n ≤ cs.size) : (w.alloc (.cells cs t)).there w.heap.size 0 n := there_row (heap_alloc_new w _) h
theorem there_below {w w' : World} {b o n : Nat} (h : w.there b o n) (hb : b < w.heap.size) (hB : Below w.heap.size w w') : w'.there b o n := fun j hj => by
  have h1 := hB.block b hb
  rw [World.cell?_of_block (a := ⟨b, o + j, none⟩) h1, World.frozen?_of_block (a := ⟨b, o + j, none⟩) h1]
  exact h j hj
theorem range_row {w : World} {b : Nat} {cs : Array Value} {t : TypeId} {f : Nat × Nat} (h : w.heap[b]? = some (.cells cs t f)) : w.rangeAt b 0 cs.toList := fun j v hv => by
  rw [Nat.zero_add, cell_of_row w b j cs t f h]
  simpa using hv
theorem below_setCells {B b : Nat} {a : World} : ∀ (vs : List Value) (o : Nat) (w : World), Below B a w → B ≤ b → Below B a (w.setCells b o vs)
  | [], _, _, h, _ => h
  | v :: vs, o, _, h, hb => below_setCells vs (o + 1) _ (h.setCell (p := ⟨b, o, none⟩) hb v) hb
theorem heap_setCells_ne {b k : Nat} (hk : k ≠ b) : ∀ (vs : List Value) (o : Nat) (w : World), (w.setCells b o vs).heap[k]? = w.heap[k]?
  | [], _, _ => rfl
  | v :: vs, o, w => (heap_setCells_ne hk vs (o + 1) (w.setCell ⟨b, o, none⟩ v)).trans (Below.heap_setCell w ⟨b, o, none⟩ v k hk)
theorem wpList_load_arr {P : Program} {ops : Array Oper} {rest : List Oper} {op : Oper} {a : Act} {w : World} {Q : Exit → Act → World → Prop} (hgd : op.guard = none) (ty : TypeId) (x : Operand) (ho : op.op = .load ty x)
    (b o : Nat) (hx : a.eval x = .pointer (some ⟨b, o, none⟩)) (cs : Array Value) (d : TypeDesc) (hc : w.rangeAt b o cs.toList)
    (hu : P.underlying ty = some d) (hd : d.isRow = true) (hi : (P.info? ty).map (·.size) = some cs.size)
    (h : wpList P ops Q rest (a.put op.dst (.agg cs)) w) : wpList P ops Q (op :: rest) a w :=
  wpList_load_mid hgd ty x ho b o hx cs.toList d hc hu hd (by rw [Array.length_toList]; exact hi) (by rw [Array.toArray_toList]; exact h)
end Go.Proofs.Ytbpgbihcihnieaa
