/- The texts Mem Plain U8 ArgHead HDoor Upto of this work, merged by wip/merge.py. No conditions. -/
import Derived.WalkKit
import Derived.Maps.AppendAt
import Derived.Deep.AppendLies
import Derived.Deep.Draws
import Derived.Lib.Hide
import Derived.Test.YtkbopeoaoakfnaaDoorProg
import Derived.OpenShut
import Derived.ProofKit
import Derived.SizedLaws
import Derived.Deep.Slices
import Derived.Deep.DeepHandedRow
import Derived.Lay
import Derived.Test.YtkbopeoaoakfnaaDoorRows
import Derived.JoinedCond
namespace Go.Proofs.YtkbopeoaoakfnaaDoor
open Go.RowKit

theorem block_of_add (a : Addr) (n : Nat) : (a.add n).block = a.block := by unfold Addr.add; split <;> rfl
theorem add_of_add (a : Addr) (i j : Nat) : (a.add i).add j = a.add (i + j) := by
  unfold Addr.add
  by_cases hi : i = 0 <;> by_cases hj : j = 0 <;> simp [hi, hj, Nat.add_assoc]

/-- The slice value '.slice A n c' holds the cells xs ('size' cells an element), in a block below B. -/
def Reads (w : World) (B size : Nat) (A : Option Addr) (n : Nat) (xs : List Value) : Prop :=
  xs.length = n * size ∧ (0 < n → ∃ ad, A = some ad ∧ ad.block < B ∧ ∀ j u, xs[j]? = some u → w.cell? (ad.add j) = some u)

section
variable {w w' : World} {B B' size n : Nat} {A : Option Addr} {xs : List Value}
theorem Reads.none_ : Reads w B size A 0 [] := ⟨by simp, fun h => absurd h (by omega)⟩
theorem add_none (b off j : Nat) : (⟨b, off, none⟩ : Addr).add j = ⟨b, off + j, none⟩ := by unfold Addr.add; split <;> simp_all
theorem Reads.at_ {k : Nat} (h : Reads w B 1 A n xs) (hk : k < n) : ∃ b off u, A = some ⟨b, off, none⟩ ∧ b < B ∧ xs[k]? = some u ∧ w.cell? ⟨b, off + k, none⟩ = some u := by
  obtain ⟨⟨b, off, spot⟩, e, hb, hc⟩ := h.2 (by omega)
  have hl : k < xs.length := by have := h.1; omega
  have h0 := hc 0 _ (List.getElem?_eq_getElem (show 0 < xs.length by omega))
  have hs : spot = none := by simpa [Addr.add] using World.cell?_spot h0
  subst hs
  have hk' := hc k _ (List.getElem?_eq_getElem hl)
  rw [add_none] at hk'
  exact ⟨b, off, xs[k], e, hb, List.getElem?_eq_getElem hl, hk'⟩
theorem Reads.keep (h : Reads w B size A n xs) (hk : ∀ p : Addr, p.block < B → w'.cell? p = w.cell? p) : Reads w' B size A n xs :=
  ⟨h.1, fun hn => by
    obtain ⟨ad, e, hb, hc⟩ := h.2 hn
    exact ⟨ad, e, hb, fun j u hu => (hk _ (by rw [block_of_add]; exact hb)).trans (hc j u hu)⟩⟩
theorem Reads.more (h : Reads w B size A n xs) (hB : B ≤ B') : Reads w B' size A n xs :=
  ⟨h.1, fun hn => by
    obtain ⟨ad, e, hb, hc⟩ := h.2 hn
    exact ⟨ad, e, by omega, hc⟩⟩
theorem Reads.below (h : Reads w B size A n xs) (hb : Below B w w') : Reads w' B size A n xs := h.keep fun _ hp => hb.cell hp
theorem Reads.drew (h : Reads w B size A n xs) : Reads w.drew B size A n xs := h
theorem Reads.drewN (h : Reads w B size A n xs) (k : Nat) : Reads (w.drewN k) B size A n xs := h
theorem Reads.alloc (h : Reads w B size A n xs) (hB : B ≤ w.heap.size) (o : Obj) : Reads (w.alloc o) B size A n xs := h.keep fun p hp => World.cell?_alloc_lt w o p (by omega)
theorem Reads.setCell (h : Reads w B size A n xs) {p : Addr} (hB : B ≤ p.block) (u : Value) : Reads (w.setCell p u) B size A n xs :=
  h.keep fun q hq => World.cell?_setCell_other w p q u (fun e => by subst e; omega)
theorem Reads.grown (h : Reads w B size A n xs) {row : Option Nat} (hg : w.grownBy w' row) (hB : B ≤ w.heap.size) (hr : ∀ g, row = some g → B ≤ g) : Reads w' B size A n xs :=
  h.keep fun p hp => World.cell?_of_block (hg.block p.block (by omega) (fun e => by have := hr _ e.symm; omega))
theorem Reads.cut (h : Reads w B size A n xs) {k cap : Nat} (hk : k ≤ n) (hc : n ≤ cap) :
    Reads w B size (if cap = k then A else A.map (·.add (k * size))) (n - k) (xs.drop (k * size)) := by
  refine ⟨by rw [List.length_drop, h.1, Nat.sub_mul], fun hn => ?_⟩
  obtain ⟨ad, rfl, hb, hcell⟩ := h.2 (by omega)
  rw [if_neg (by omega)]
  refine ⟨ad.add (k * size), rfl, by rw [block_of_add]; exact hb, fun j u hu => ?_⟩
  rw [add_of_add]
  exact hcell _ u (by rw [← hu, List.getElem?_drop])
theorem Reads.take (h : Reads w B size A n xs) {k : Nat} (hk : k ≤ n) : Reads w B size A k (xs.take (k * size)) := by
  have hl : k * size ≤ n * size := Nat.mul_le_mul_right _ hk
  refine ⟨by rw [List.length_take, h.1]; omega, fun hn => ?_⟩
  obtain ⟨ad, rfl, hb, hcell⟩ := h.2 (by omega)
  refine ⟨ad, rfl, hb, fun j u hu => hcell j u ?_⟩
  rw [List.getElem?_take] at hu
  split at hu
  · exact hu
  · cases hu
theorem Reads.of_own {base : Nat} {e : TypeId} {c : Nat} (h : w.ownsRow base e size (.slice A n c) n xs) : Reads w w.heap.size size A n xs := by
  refine ⟨h.1, fun hn => ?_⟩
  obtain ⟨g, cap, hv, _, hlt⟩ := h.form hn
  have hA : A = some ⟨g, 0, none⟩ := by injection hv
  subst hA
  exact ⟨_, rfl, hlt, h.cells (g := g) rfl⟩
end

theorem cell_new (w : World) (cs : Array Value) (t : TypeId) (i : Nat) : (w.alloc (.cells cs t)).cell? ⟨w.heap.size, i, none⟩ = cs[i]? :=
  cell_of_row _ w.heap.size i cs t (0, 0) (heap_alloc_new w _)
theorem cell_at {w : World} {cs : Array Value} {t : TypeId} {g i : Nat} {u : Value} (hg : g = w.heap.size) (hu : cs[i]? = some u) : (w.alloc (.cells cs t)).cell? ⟨g, i, none⟩ = some u := by
  subst hg; rw [cell_new]; exact hu
/-- A byte as a cell. -/
def bv (b : UInt8) : Value := .int .u8 (b.toNat : Int)
def bvs (l : List UInt8) : List Value := l.map bv
theorem bvs_length (l : List UInt8) : (bvs l).length = l.length := by simp [bvs]
theorem bvs_append (l m : List UInt8) : bvs (l ++ m) = bvs l ++ bvs m := by simp [bvs]
theorem bvs_one (l : List UInt8) : ∀ u ∈ bvs l, u.oneCell' = true := by
  intro u hu
  simp only [bvs, List.mem_map] at hu
  obtain ⟨b, _, rfl⟩ := hu
  rfl
theorem bvs_inj {l m : List UInt8} (h : bvs l = bvs m) : l = m := by
  induction l generalizing m with
  | nil => cases m with
    | nil => rfl
    | cons _ _ => simp [bvs] at h
  | cons a l ih => cases m with
    | nil => simp [bvs] at h
    | cons b m =>
      simp only [bvs, List.map_cons, List.cons.injEq, bv, Value.int.injEq, true_and] at h
      have h1 : a = b := UInt8.toNat_inj.1 (by exact_mod_cast h.1)
      rw [h1, ih h.2]

section
variable {P : Program} (w : World)

theorem run_append_of_nil (base : Nat) (t ty e : TypeId) (i : TypeInfo) (size : Nat) (ht : P.underlying t = some (.slice e)) (hi : P.info? e = some i)
    (v : Value) (n : Nat) (xs : List Value) (hown : w.ownsRow base e size v n xs) (c : Nat) : (Builtin.append_ #[t, t] ty #[v, .slice none 0 c]).run P w = .ok v w := by
  rcases hown.2 with ⟨rfl, rfl⟩ | ⟨g, cap, cur, rfl, _, _, hnc, _⟩
  · simp [Builtin.append_, run_underlying ht, sizeOf, typeInfo, hi, Builtin.lenOf, Builtin.firstCells]
  · simp [Builtin.append_, run_underlying ht, sizeOf, typeInfo, hi, Builtin.lenOf, Builtin.firstCells, hnc, storeCells]

theorem run_append_any (base : Nat) (t ty e : TypeId) (i : TypeInfo) (z : Value) (size bytes : Nat) (ht : P.underlying t = some (.slice e)) (hi : P.info? e = some i) (hz : i.zero = some z)
    (hsize : i.size = size) (hby : i.bytes = bytes) (hzs : z.cells.size = size) (hsz : 0 < size)
    (v : Value) (n : Nat) (xs : List Value) (hown : w.ownsRow base e size v n xs)
    (B : Nat) (A : Option Addr) (m c : Nat) (news : List Value) (hr : Reads w B size A m news) (h1 : ∀ u ∈ news, u.oneCell' = true)
    (h63 : n + m ≤ maxLen) (hbytes : (n + m) * bytes ≤ 140737488355328) (hbase : base ≤ w.heap.size) :
    ∃ v' w', (Builtin.append_ #[t, t] ty #[v, .slice A m c]).run P w = .ok v' w' ∧ w'.ownsRow base e size v' (n + m) (xs ++ news) ∧ w.grownBy w' v.ownBlock ∧
      (v'.ownBlock = v.ownBlock ∨ v'.ownBlock = some w.heap.size) := by
  rcases A with _ | ad
  · have hm : m = 0 := by
      rcases Nat.eq_zero_or_pos m with h0 | h0
      · exact h0
      · obtain ⟨ad, h, _⟩ := hr.2 h0
        cases h
    subst hm
    have hn : news = [] := List.eq_nil_of_length_eq_zero (by simpa using hr.1)
    subst hn
    exact ⟨v, w, run_append_of_nil w base t ty e i size ht hi v n xs hown c, by simpa using hown, World.grownBy.refl w _, .inl rfl⟩
  · have hcells : ∀ j u, news[j]? = some u → w.cell? (ad.add j) = some u := by
      intro j u hu
      rcases Nat.eq_zero_or_pos m with h0 | h0
      · subst h0
        have hn : news = [] := List.eq_nil_of_length_eq_zero (by simpa using hr.1)
        subst hn
        simp at hu
      · obtain ⟨ad', h, _, hc⟩ := hr.2 h0
        injection h with h
        subst h
        exact hc j u hu
    obtain ⟨v', w', hrun, h2, h3, _, h5⟩ := run_append_own_at (P := P) w base t ty e i z size bytes ht hi hz hsize hby hzs hsz v n xs hown ad m c news hr.1 hcells h1 h63 hbytes hbase
    exact ⟨v', w', hrun, h2, h3, h5⟩

theorem wp_append_any {o : Oper} {a : Act} {K : Act → World → Prop} {Q : Exit → Act → World → Prop} (s x : Operand) (t : TypeId)
    (ho : o.op = .call { callee := .builtin .append, args := #[s, x], argTypes := #[t, t] })
    (base : Nat) (e : TypeId) (i : TypeInfo) (z : Value) (size bytes : Nat) (ht : P.underlying t = some (.slice e)) (hi : P.info? e = some i) (hz : i.zero = some z)
    (hsize : i.size = size) (hby : i.bytes = bytes) (hzs : z.cells.size = size) (hsz : 0 < size)
    (v : Value) (n : Nat) (xs : List Value) (hs : a.eval s = v) (hown : w.ownsRow base e size v n xs)
    (B : Nat) (A : Option Addr) (m c : Nat) (news : List Value) (hx : a.eval x = .slice A m c) (hr : Reads w B size A m news) (h1 : ∀ u ∈ news, u.oneCell' = true)
    (h63 : n + m ≤ maxLen) (hbytes : (n + m) * bytes ≤ 140737488355328) (hbase : base ≤ w.heap.size)
    (h : ∀ v' w', w'.ownsRow base e size v' (n + m) (xs ++ news) → w.grownBy w' v.ownBlock → (v'.ownBlock = v.ownBlock ∨ v'.ownBlock = some w.heap.size) → K (a.put o.dst v') w') : o.wp P a w K Q := by
  obtain ⟨v', w', hrun, h2, h3, h4⟩ := run_append_any (P := P) w base t o.type e i z size bytes ht hi hz hsize hby hzs hsz v n xs hown B A m c news hr h1 h63 hbytes hbase
  unfold Oper.wp execOp
  simp only [ho, resolve, invoke, builtin, Sem.run_bind, Sem.run_pure, Result.andThen_ok, List.map_toArray, List.map_cons, List.map_nil, hs, hx, hrun]
  exact h v' w' h2 h3 h4

theorem wpList_append_any {ops : Array Oper} {rest : List Oper} {o : Oper} {a : Act} {Q : Exit → Act → World → Prop} (hgd : o.guard = none) (s x : Operand) (t : TypeId)
    (ho : o.op = .call { callee := .builtin .append, args := #[s, x], argTypes := #[t, t] })
    (base : Nat) (e : TypeId) (i : TypeInfo) (z : Value) (size bytes : Nat) (ht : P.underlying t = some (.slice e)) (hi : P.info? e = some i) (hz : i.zero = some z)
    (hsize : i.size = size) (hby : i.bytes = bytes) (hzs : z.cells.size = size) (hsz : 0 < size)
    (v : Value) (n : Nat) (xs : List Value) (hs : a.eval s = v) (hown : w.ownsRow base e size v n xs)
    (B : Nat) (A : Option Addr) (m c : Nat) (news : List Value) (hx : a.eval x = .slice A m c) (hr : Reads w B size A m news) (h1 : ∀ u ∈ news, u.oneCell' = true)
    (h63 : n + m ≤ maxLen) (hbytes : (n + m) * bytes ≤ 140737488355328) (hbase : base ≤ w.heap.size)
    (h : ∀ v' w', w'.ownsRow base e size v' (n + m) (xs ++ news) → w.grownBy w' v.ownBlock → (v'.ownBlock = v.ownBlock ∨ v'.ownBlock = some w.heap.size) → wpList P ops Q rest (a.put o.dst v') w') : wpList P ops Q (o :: rest) a w :=
  wpList_plain hgd fun _ hK => wp_append_any w s x t ho base e i z size bytes ht hi hz hsize hby hzs hsz v n xs hs hown B A m c news hx hr h1 h63 hbytes hbase fun v' w' h2 h3 h4 => hK _ _ (h v' w' h2 h3 h4)

theorem step_append_any {ops : Array Oper} {o : Oper} {a : Act} {K : Act → World → Prop} {Q : Exit → Act → World → Prop} {E : Prop} (hgd : o.guard = none) (s x : Operand) (t : TypeId)
    (ho : o.op = .call { callee := .builtin .append, args := #[s, x], argTypes := #[t, t] })
    (base : Nat) (e : TypeId) (i : TypeInfo) (z : Value) (size bytes : Nat) (ht : P.underlying t = some (.slice e)) (hi : P.info? e = some i) (hz : i.zero = some z)
    (hsize : i.size = size) (hby : i.bytes = bytes) (hzs : z.cells.size = size) (hsz : 0 < size)
    (v : Value) (n : Nat) (xs : List Value) (hs : a.eval s = v) (hown : w.ownsRow base e size v n xs)
    (B : Nat) (A : Option Addr) (m c : Nat) (news : List Value) (hx : a.eval x = .slice A m c) (hr : Reads w B size A m news) (h1 : ∀ u ∈ news, u.oneCell' = true)
    (h63 : n + m ≤ maxLen) (hbytes : (n + m) * bytes ≤ 140737488355328) (hbase : base ≤ w.heap.size)
    (h : ∀ v' w', w'.ownsRow base e size v' (n + m) (xs ++ news) → w.grownBy w' v.ownBlock → (v'.ownBlock = v.ownBlock ∨ v'.ownBlock = some w.heap.size) → K (a.put o.dst v') w') :
    if Region.wanted o (yielded ops a.tmps) = true then Oper.wp P o a w K Q else E := by
  have hw : Region.wanted o (yielded ops a.tmps) = true := by simp [Region.wanted, hgd]
  rw [if_pos hw]
  exact wp_append_any w s x t ho base e i z size bytes ht hi hz hsize hby hzs hsz v n xs hs hown B A m c news hx hr h1 h63 hbytes hbase h
end
end Go.Proofs.YtkbopeoaoakfnaaDoor

namespace Go.Proofs.YtkbopeoaoakfnaaDoor

def be4 (m : Nat) : List UInt8 := [UInt8.ofNat (m / 16777216), UInt8.ofNat (m / 65536), UInt8.ofNat (m / 256), UInt8.ofNat m]
theorem be4_length (m : Nat) : (be4 m).length = 4 := rfl

/-- The bytes that a list's members take up, with their lengths. -/
def bulk : List (List UInt8) → Nat
  | [] => 0
  | b :: l => 4 + b.length + bulk l
theorem bulk_append (l m : List (List UInt8)) : bulk (l ++ m) = bulk l + bulk m := by
  induction l with
  | nil => simp [bulk]
  | cons a l ih => simp only [List.cons_append, bulk, ih]; omega
theorem bulk_take_succ (l : List (List UInt8)) (k : Nat) (h : k < l.length) : bulk (l.take (k + 1)) = bulk (l.take k) + (4 + l[k].length) := by
  rw [List.take_succ_eq_append_getElem h, bulk_append]; simp [bulk]
theorem bulk_take_le (l : List (List UInt8)) (k : Nat) : bulk (l.take k) ≤ bulk l := by
  have := bulk_append (l.take k) (l.drop k)
  rw [List.take_append_drop] at this; omega
theorem bulk_ge (l : List (List UInt8)) : 4 * l.length ≤ bulk l := by
  induction l with
  | nil => simp [bulk]
  | cons a l ih => simp only [List.length_cons, bulk]; omega
def encOK (l : List (List UInt8)) : Bool := decide (l.length ≤ 65536) && decide (4 + bulk l ≤ 1048576)
def members : List (List UInt8) → List UInt8
  | [] => []
  | b :: l => be4 b.length ++ b ++ members l
theorem members_append (l m : List (List UInt8)) : members (l ++ m) = members l ++ members m := by
  induction l with
  | nil => simp [members]
  | cons a l ih => simp [members, ih]
theorem members_take_succ (l : List (List UInt8)) (k : Nat) (h : k < l.length) : members (l.take (k + 1)) = members (l.take k) ++ be4 l[k].length ++ l[k] := by
  rw [List.take_succ_eq_append_getElem h, members_append]; simp [members]
theorem members_length (l : List (List UInt8)) : (members l).length = bulk l := by
  induction l with
  | nil => rfl
  | cons a l ih => simp only [members, List.length_append, be4_length, ih, bulk]
def encB (l : List (List UInt8)) : List UInt8 := if encOK l then be4 l.length ++ members l else []
def encE (l : List (List UInt8)) : Int := if encOK l then 0 else 6
theorem encB_ok {l : List (List UInt8)} (h : encOK l = true) : encB l = be4 l.length ++ members l := by simp [encB, h]
theorem encB_no {l : List (List UInt8)} (h : encOK l = false) : encB l = [] := by simp [encB, h]
theorem encE_ok {l : List (List UInt8)} (h : encOK l = true) : encE l = 0 := by simp [encE, h]
theorem encE_no {l : List (List UInt8)} (h : encOK l = false) : encE l = 6 := by simp [encE, h]
theorem encOK_of {l : List (List UInt8)} (h : l.length ≤ 65536) (h' : 4 + bulk l ≤ 1048576) : encOK l = true := by simp [encOK, h, h']
theorem encOK_no1 {l : List (List UInt8)} (h : 65536 < l.length) : encOK l = false := by simp [encOK]; omega
theorem encOK_no2 {l : List (List UInt8)} (h : 1048576 < 4 + bulk l) : encOK l = false := by simp [encOK]; omega

/-- The number of the first 4 bytes. -/
def num4 (l : List UInt8) : Nat := (l.getD 0 0).toNat * 16777216 + (l.getD 1 0).toNat * 65536 + (l.getD 2 0).toNat * 256 + (l.getD 3 0).toNat
theorem num4_lt (l : List UInt8) : num4 l < 4294967296 := by
  unfold num4
  have h0 := (l.getD 0 0).toNat_lt; have h1 := (l.getD 1 0).toNat_lt; have h2 := (l.getD 2 0).toNat_lt; have h3 := (l.getD 3 0).toNat_lt
  omega
theorem num4_be4 (m : Nat) (l : List UInt8) (hm : m < 4294967296) : num4 (be4 m ++ l) = m := by
  simp [num4, be4]
  omega
theorem be4_num4 (l : List UInt8) (h : 4 ≤ l.length) : be4 (num4 l) = l.take 4 := by
  match l, h with
  | a :: b :: c :: d :: r, _ =>
    have h0 := a.toNat_lt; have h1 := b.toNat_lt; have h2 := c.toNat_lt; have h3 := d.toNat_lt
    simp only [be4, num4, List.getD_cons_zero, List.getD_cons_succ, List.take_succ_cons, List.take_zero, List.cons.injEq, and_true]
    have e : ∀ (x : Nat) (y : UInt8), x % 256 = y.toNat → UInt8.ofNat x = y := by
      intro x y hxy
      apply UInt8.toNat_inj.1
      simpa using hxy
    exact ⟨e _ _ (by omega), e _ _ (by omega), e _ _ (by omega), e _ _ (by omega)⟩
/-- One member off the bytes. -/
def one (r : List UInt8) : Option (List UInt8 × List UInt8) :=
  if r.length < 4 then none else if r.length - 4 < num4 r then none else some ((r.drop 4).take (num4 r), (r.drop 4).drop (num4 r))
theorem one_no1 {r : List UInt8} (h : r.length < 4) : one r = none := by simp [one, h]
theorem one_no2 {r : List UInt8} (h : r.length - 4 < num4 r) : one r = none := by
  unfold one
  by_cases h4 : r.length < 4
  · rw [if_pos h4]
  · rw [if_neg h4, if_pos h]
theorem one_yes {r : List UInt8} (h : 4 ≤ r.length) (h2 : num4 r ≤ r.length - 4) : one r = some ((r.drop 4).take (num4 r), (r.drop 4).drop (num4 r)) := by
  unfold one; rw [if_neg (by omega), if_neg (by omega)]
/-- k members off the bytes, from the left. -/
def memI : Nat → List UInt8 → Option (List (List UInt8) × List UInt8)
  | 0, r => some ([], r)
  | k + 1, r => (memI k r).bind fun p => (one p.2).map fun q => (p.1 ++ [q.1], q.2)
theorem memI_succ {k : Nat} {r r' x r'' : List UInt8} {ls : List (List UInt8)} (h : memI k r = some (ls, r')) (h1 : one r' = some (x, r'')) : memI (k + 1) r = some (ls ++ [x], r'') := by
  simp [memI, h, h1]
theorem memI_fail {k n : Nat} {r r' : List UInt8} {ls : List (List UInt8)} (h : memI k r = some (ls, r')) (h1 : one r' = none) (hn : k < n) : memI n r = none := by
  have h2 : memI (k + 1) r = none := by simp [memI, h, h1]
  have : ∀ d, memI (k + 1 + d) r = none := by
    intro d
    induction d with
    | zero => exact h2
    | succ d ih => rw [show k + 1 + (d + 1) = (k + 1 + d) + 1 from by omega, memI, ih]; rfl
  rw [show n = k + 1 + (n - (k + 1)) from by omega]
  exact this _
theorem memI_length {k : Nat} {r r' : List UInt8} {ls : List (List UInt8)} (h : memI k r = some (ls, r')) : ls.length = k := by
  induction k generalizing ls r' with
  | zero => simp [memI] at h; simp [← h.1]
  | succ k ih =>
    simp only [memI, Option.bind_eq_some_iff, Option.map_eq_some_iff, Prod.exists, Prod.mk.injEq] at h
    obtain ⟨ls', r1, h1, x, r2, _, rfl, _⟩ := h
    simp [ih h1]
theorem memI_drop {k : Nat} {r r' : List UInt8} {ls : List (List UInt8)} (h : memI k r = some (ls, r')) : members ls ++ r' = r := by
  induction k generalizing ls r' with
  | zero =>
    simp [memI] at h
    obtain ⟨rfl, rfl⟩ := h
    rfl
  | succ k ih =>
    simp only [memI, Option.bind_eq_some_iff, Option.map_eq_some_iff, Prod.exists, Prod.mk.injEq] at h
    obtain ⟨ls', r1, h1, x, r2, h2, rfl, rfl⟩ := h
    have := ih h1
    rw [← this, members_append, List.append_assoc]
    congr 1
    unfold one at h2
    split at h2
    · cases h2
    · rename_i h4
      split at h2
      · cases h2
      · rename_i h5
        simp only [Option.some.injEq, Prod.mk.injEq] at h2
        obtain ⟨rfl, rfl⟩ := h2
        have hl : ((r1.drop 4).take (num4 r1)).length = num4 r1 := by rw [List.length_take, List.length_drop]; omega
        simp only [members, List.append_nil]
        rw [hl, be4_num4 _ (by omega), List.append_assoc, List.take_append_drop, List.take_append_drop]
theorem memI_members (ls : List (List UInt8)) (r : List UInt8) (hb : ∀ l ∈ ls, l.length < 4294967296) : memI ls.length (members ls ++ r) = some (ls, r) := by
  have gen : ∀ (k : Nat), k ≤ ls.length → memI k (members ls ++ r) = some (ls.take k, members (ls.drop k) ++ r) := by
    intro k
    induction k with
    | zero => intro _; rfl
    | succ k ih =>
      intro hk
      have hlt : k < ls.length := by omega
      have h1 := ih (by omega)
      have hd : ls.drop k = ls[k] :: ls.drop (k + 1) := List.drop_eq_getElem_cons hlt
      have hm : members (ls.drop k) ++ r = be4 ls[k].length ++ (ls[k] ++ (members (ls.drop (k + 1)) ++ r)) := by rw [hd]; simp [members]
      have hx := hb ls[k] (List.getElem_mem hlt)
      have hn : num4 (members (ls.drop k) ++ r) = ls[k].length := by rw [hm]; exact num4_be4 _ _ hx
      have hdr : (members (ls.drop k) ++ r).drop 4 = ls[k] ++ (members (ls.drop (k + 1)) ++ r) := by rw [hm]; rfl
      have hlen : (members (ls.drop k) ++ r).length = 4 + ls[k].length + (members (ls.drop (k + 1)) ++ r).length := by rw [hm]; simp [be4_length]; omega
      refine (memI_succ h1 (one_yes (by omega) (by omega))).trans ?_
      rw [hn, hdr, List.take_left, List.drop_left, List.take_succ_eq_append_getElem hlt]
  have := gen ls.length (Nat.le_refl _)
  rw [this, List.take_length, List.drop_length]
  rfl
def decV (l : List UInt8) : List (List UInt8) :=
  if 1048576 < l.length then [] else if l.length < 4 then [] else if 65536 < num4 l then [] else
    match memI (num4 l) (l.drop 4) with
    | some (ls, []) => ls
    | _ => []
def decE (l : List UInt8) : Int :=
  if 1048576 < l.length then 6 else if l.length < 4 then 2 else if 65536 < num4 l then 2 else
    match memI (num4 l) (l.drop 4) with
    | some (_, []) => 0
    | _ => 2
theorem dec_large {l : List UInt8} (h : 1048576 < l.length) : decV l = [] ∧ decE l = 6 := by simp [decV, decE, h]
theorem dec_short {l : List UInt8} (h : ¬ 1048576 < l.length) (h4 : l.length < 4) : decV l = [] ∧ decE l = 2 := by simp [decV, decE, h, h4]
theorem dec_many {l : List UInt8} (h : ¬ 1048576 < l.length) (h4 : ¬ l.length < 4) (hn : 65536 < num4 l) : decV l = [] ∧ decE l = 2 := by simp [decV, decE, h, h4, hn]
theorem dec_fail {l : List UInt8} (h : ¬ 1048576 < l.length) (h4 : ¬ l.length < 4) (hn : ¬ 65536 < num4 l) (hm : memI (num4 l) (l.drop 4) = none) : decV l = [] ∧ decE l = 2 := by simp [decV, decE, h, h4, hn, hm]
theorem dec_rest {l r : List UInt8} {ls : List (List UInt8)} (h : ¬ 1048576 < l.length) (h4 : ¬ l.length < 4) (hn : ¬ 65536 < num4 l) (hm : memI (num4 l) (l.drop 4) = some (ls, r)) (hr : 0 < r.length) : decV l = [] ∧ decE l = 2 := by
  cases r with
  | nil => simp at hr
  | cons a r => simp [decV, decE, h, h4, hn, hm]
theorem dec_ok {l r : List UInt8} {ls : List (List UInt8)} (h : ¬ 1048576 < l.length) (h4 : ¬ l.length < 4) (hn : ¬ 65536 < num4 l) (hm : memI (num4 l) (l.drop 4) = some (ls, r)) (hr : r.length = 0) : decV l = ls ∧ decE l = 0 := by
  have : r = [] := List.eq_nil_of_length_eq_zero hr
  subst this
  simp [decV, decE, h, h4, hn, hm]
theorem dec_cases (l : List UInt8) : (decE l = 0 ∧ ∃ ls, decV l = ls ∧ l = be4 ls.length ++ members ls ∧ ls.length ≤ 65536 ∧ l.length ≤ 1048576) ∨ ((decE l = 2 ∨ decE l = 6) ∧ decV l = []) := by
  by_cases h : 1048576 < l.length
  · exact .inr ⟨.inr (dec_large h).2, (dec_large h).1⟩
  by_cases h4 : l.length < 4
  · exact .inr ⟨.inl (dec_short h h4).2, (dec_short h h4).1⟩
  by_cases hn : 65536 < num4 l
  · exact .inr ⟨.inl (dec_many h h4 hn).2, (dec_many h h4 hn).1⟩
  cases hm : memI (num4 l) (l.drop 4) with
  | none => exact .inr ⟨.inl (dec_fail h h4 hn hm).2, (dec_fail h h4 hn hm).1⟩
  | some p =>
    obtain ⟨ls, r⟩ := p
    by_cases hr : 0 < r.length
    · exact .inr ⟨.inl (dec_rest h h4 hn hm hr).2, (dec_rest h h4 hn hm hr).1⟩
    · have hr0 : r.length = 0 := by omega
      have hk := memI_length hm
      have hd := memI_drop hm
      have : r = [] := List.eq_nil_of_length_eq_zero hr0
      subst this
      refine .inl ⟨(dec_ok h h4 hn hm hr0).2, ls, (dec_ok h h4 hn hm hr0).1, ?_, by omega, by omega⟩
      rw [hk, be4_num4 _ (by omega)]
      rw [List.append_nil] at hd
      rw [hd, List.take_append_drop]
theorem enc_dec {ls : List (List UInt8)} (h : encOK ls = true) : decV (encB ls) = ls ∧ decE (encB ls) = 0 := by
  have h1 : ls.length ≤ 65536 ∧ 4 + bulk ls ≤ 1048576 := by simpa [encOK] using h
  have hlen : (encB ls).length = 4 + bulk ls := by rw [encB_ok h, List.length_append, be4_length, members_length]
  have hn : num4 (encB ls) = ls.length := by rw [encB_ok h]; exact num4_be4 _ _ (by omega)
  have hd : (encB ls).drop 4 = members ls ++ [] := by rw [encB_ok h]; simp [be4]
  have hb : ∀ l ∈ ls, l.length < 4294967296 := by
    intro l hl
    have : ∀ (ls : List (List UInt8)), l ∈ ls → l.length ≤ bulk ls := by
      intro ls
      induction ls with
      | nil => intro h; cases h
      | cons a ls ih =>
        intro h
        simp only [bulk]
        rcases List.mem_cons.1 h with rfl | h
        · omega
        · have := ih h; omega
    have := this ls hl; omega
  exact dec_ok (r := []) (by omega) (by omega) (by omega) (by rw [hn, hd]; exact memI_members ls [] hb) rfl
theorem dec_enc {l : List UInt8} (h : decE l = 0) : encOK (decV l) = true ∧ encB (decV l) = l := by
  rcases dec_cases l with ⟨_, ls, h1, h2, h3, h4⟩ | ⟨h1, _⟩
  · rw [h1]
    have hok : encOK ls = true := encOK_of h3 (by rw [h2, List.length_append, be4_length, members_length] at h4; exact h4)
    exact ⟨hok, by rw [encB_ok hok, ← h2]⟩
  · rcases h1 with h1 | h1 <;> rw [h1] at h <;> cases h

/-- The bytes of which accounts are made. -/
def accB (c : UInt8) : Bool := (decide (97 ≤ c.toNat) && decide (c.toNat ≤ 122)) || (decide (48 ≤ c.toNat) && decide (c.toNat ≤ 57)) || c.toNat == 46 || c.toNat == 95 || c.toNat == 45
def accOK (l : List UInt8) : Bool := l.all accB && decide (1 ≤ l.length) && decide (l.length ≤ 32)
def okR (x : Nat) : Prop := (97 ≤ x ∧ x ≤ 122) ∨ (48 ≤ x ∧ x ≤ 57) ∨ x = 46 ∨ x = 95 ∨ x = 45
theorem accB_yes {c : UInt8} (h : okR c.toNat) : accB c = true := by
  unfold okR at h; simp [accB]; omega
theorem accB_no {c : UInt8} (h : ¬ okR c.toNat) : accB c = false := by
  unfold okR at h; simp [accB]; omega
theorem okR_lt {x : Nat} (h : okR x) : x < 128 := by unfold okR at h; omega
theorem accOK_no {l : List UInt8} {k : Nat} (hk : k < l.length) (h : accB l[k] = false) : accOK l = false := by
  have : l.all accB = false := by
    rw [List.all_eq_false]
    exact ⟨l[k], List.getElem_mem hk, by simp [h]⟩
  simp [accOK, this]
theorem accOK_end {l : List UInt8} (h : ∀ (k : Nat) (hk : k < l.length), accB l[k] = true) : accOK l = (decide (1 ≤ l.length) && decide (l.length ≤ 32)) := by
  have : l.all accB = true := by
    rw [List.all_eq_true]
    intro x hx
    obtain ⟨k, hk, rfl⟩ := List.getElem_of_mem hx
    exact h k hk
  simp [accOK, this]
end Go.Proofs.YtkbopeoaoakfnaaDoor

namespace Go.Proofs.YtkbopeoaoakfnaaDoor
open Go.RowKit
theorem u8info : (Tryd.prog.info? 5).map (fun i => (i.zero, i.size, i.bytes)) = some (some (.int .u8 0), 1, 1) := by kernel_rfl

/-- v is a slice of bytes that the call owns (from block 'base' on); its bytes are l. -/
def Own8 (w : World) (base : Nat) (v : Value) (l : List UInt8) : Prop := w.ownsRow base 5 1 v l.length (bvs l)

theorem Own8.alloc {w : World} {base : Nat} {v : Value} {l : List UInt8} (h : Own8 w base v l) (o : Obj) : Own8 (w.alloc o) base v l := World.ownsRow.alloc h o

theorem app8 {ops : Array Oper} {rest : List Oper} {o : Oper} {a : Act} {w : World} {Q : Exit → Act → World → Prop} {s x : Operand} {base B : Nat} {v : Value} {l : List UInt8} {A : Option Addr} {m c : Nat} {news : List UInt8}
    (hgd : o.guard = none) (ho : o.op = .call { callee := .builtin .append, args := #[s, x], argTypes := #[64, 64] })
    (hs : a.eval s = v) (hx : a.eval x = .slice A m c) (hown : Own8 w base v l) (hr : Reads w B 1 A m (bvs news)) (hbytes : l.length + m ≤ 140737488355328) (hbase : base ≤ w.heap.size)
    (h : ∀ v' w', Own8 w' base v' (l ++ news) → w.grownBy w' v.ownBlock → (v'.ownBlock = v.ownBlock ∨ v'.ownBlock = some w.heap.size) → wpList Tryd.prog ops Q rest (a.put o.dst v') w') : wpList Tryd.prog ops Q (o :: rest) a w := by
  obtain ⟨i0, hi0, hz0, hz1, hz2⟩ := info_parts u8info
  have hm : m = news.length := by have := hr.1; rw [bvs_length] at this; omega
  subst hm
  refine wpList_append_any w hgd s x _ ho base 5 i0 _ 1 1 Tryd.underlying64 hi0 hz0 hz1 hz2 rfl (by omega) v l.length (bvs l) hs hown B A _ c (bvs news) hx hr (bvs_one _) (by simp only [maxLen]; omega) (by omega) hbase ?_
  intro v' w' h1 h2 h3
  refine h v' w' ?_ h2 h3
  unfold Own8
  rw [List.length_append, bvs_append]
  exact h1
theorem Reads.bytes {w : World} {B n : Nat} {A : Option Addr} {l : List UInt8} (h : Reads w B 1 A n (bvs l)) (h0 : 0 < n) : ∃ b off, A = some ⟨b, off, none⟩ ∧ b < B ∧ ∀ k, k < n → w.cell? ⟨b, off + k, none⟩ = some (.int .u8 ((l.getD k 0).toNat : Int)) := by
  obtain ⟨b, off, _, rfl, hb, _, _⟩ := h.at_ h0
  refine ⟨b, off, rfl, hb, fun k hk => ?_⟩
  obtain ⟨b', off', u, he, _, hu, hc⟩ := h.at_ hk
  cases he
  have hl : k < l.length := by have := h.1; rw [bvs_length] at this; omega
  rw [hc]
  simp only [bvs, List.getElem?_map, List.getElem?_eq_getElem hl, Option.map_some, Option.some.injEq] at hu
  rw [← hu]
  simp [bv, List.getD, List.getElem?_eq_getElem hl]
theorem reads_new (w : World) (cs : Array Value) (t : TypeId) (n : Nat) (hn : cs.size = n) : Reads (w.alloc (.cells cs t)) (w.heap.size + 1) 1 (some ⟨w.heap.size, 0, none⟩) n cs.toList := by
  subst hn
  refine ⟨by simp, fun _ => ⟨_, rfl, by simp, fun j u hu => ?_⟩⟩
  have hj : j < cs.size := by
    have := (List.getElem?_eq_some_iff.1 hu).1
    simpa using this
  have hadd : (⟨w.heap.size, 0, none⟩ : Addr).add j = ⟨w.heap.size, j, none⟩ := by unfold Addr.add; split <;> simp_all
  rw [hadd, cell_of_row _ w.heap.size j cs t (0, 0) (heap_alloc_new w _)]
  simpa using hu

theorem be4_cells (m : Nat) (hm : m < 4294967296) : bvs (be4 m) = [.int .u8 ((m : Int) / 16777216), .int .u8 ((m : Int) / 65536 % 256), .int .u8 ((m : Int) / 256 % 256), .int .u8 ((m : Int) % 256)] := by
  simp [bvs, be4, bv]
  omega

/-- The slice '.slice A ls.length c' is a list of byte slices that read as ls. -/
def Lists (w : World) (B : Nat) (A : Option Addr) (ls : List (List UInt8)) : Prop :=
  ∃ vs : List Value, Reads w B 1 A ls.length vs ∧ ∀ (i : Nat) (h : i < ls.length), ∃ A' c', vs[i]? = some (.slice A' ls[i].length c') ∧ ls[i].length ≤ c' ∧ Reads w B 1 A' ls[i].length (bvs ls[i])
theorem Lists.at_ {w : World} {B : Nat} {A : Option Addr} {ls : List (List UInt8)} (h : Lists w B A ls) (k : Nat) (hk : k < ls.length) :
    ∃ l b off A' c', Hid (ls[k] = l) ∧ A = some ⟨b, off, none⟩ ∧ b < B ∧ w.cell? ⟨b, off + k, none⟩ = some (.slice A' l.length c') ∧ l.length ≤ c' ∧ Reads w B 1 A' l.length (bvs l) := by
  obtain ⟨vs, hr, hi⟩ := h
  obtain ⟨A', c', hv, hle, hr'⟩ := hi k hk
  obtain ⟨b, off, u, rfl, hb, hu, hc⟩ := hr.at_ hk
  rw [hu] at hv; cases hv
  exact ⟨_, b, off, A', c', rfl, rfl, hb, hc, hle, hr'⟩
theorem Lists.below {w w' : World} {B : Nat} {A : Option Addr} {ls : List (List UInt8)} (h : Lists w B A ls) (hb : Below B w w') : Lists w' B A ls := by
  obtain ⟨vs, hr, hi⟩ := h
  refine ⟨vs, hr.below hb, fun i hlt => ?_⟩
  obtain ⟨A', c', h1, h2, h3⟩ := hi i hlt
  exact ⟨A', c', h1, h2, h3.below hb⟩
theorem Lists.more {w : World} {B B' : Nat} {A : Option Addr} {ls : List (List UInt8)} (h : Lists w B A ls) (hB : B ≤ B') : Lists w B' A ls := by
  obtain ⟨vs, hr, hi⟩ := h
  refine ⟨vs, hr.more hB, fun i hlt => ?_⟩
  obtain ⟨A', c', h1, h2, h3⟩ := hi i hlt
  exact ⟨A', c', h1, h2, h3.more hB⟩
theorem Lists.at_b {w w' : World} {B : Nat} {A : Option Addr} {ls : List (List UInt8)} (h : Lists w B A ls) (hbel : Below B w w') (k : Nat) (hk : k < ls.length) :
    ∃ l b off A' c', Hid (ls[k] = l) ∧ A = some ⟨b, off, none⟩ ∧ b < B ∧ w'.cell? ⟨b, off + k, none⟩ = some (.slice A' l.length c') ∧ l.length ≤ c' ∧ Reads w B 1 A' l.length (bvs l) := by
  obtain ⟨l, b, off, A', c', h1, h2, h3, h4, h5, h6⟩ := h.at_ k hk
  exact ⟨l, b, off, A', c', h1, h2, h3, (hbel.cell (p := ⟨b, off + k, none⟩) h3).trans h4, h5, h6⟩
theorem own8_nil (w : World) (base : Nat) : Own8 w base (.slice none 0 0) [] := World.ownsRow_nil w base _ 1
theorem below_own8 {a w w' : World} {v : Value} {l : List UInt8} (h : Below a.heap.size a w) (ho : Own8 w a.heap.size v l) (hg : w.grownBy w' v.ownBlock) : Below a.heap.size a w' :=
  h.grown hg h.size (fun k hk => (World.ownsRow.lt ho k hk).1)
theorem below_none {a w w' : World} (h : Below a.heap.size a w) (hg : w.grownBy w' none) : Below a.heap.size a w' := h.grown hg h.size (fun k hk => by cases hk)
theorem make8 {ops : Array Oper} {rest : List Oper} {o : Oper} {a : Act} {w : World} {Q : Exit → Act → World → Prop} {l c : Operand} {base n : Nat} {kl kc : IntKind} {C : Int}
    (hgd : o.guard = none) (ho : o.op = Op.makeSlice 64 l c) (hl : a.eval l = .int kl 0) (hc : a.eval c = .int kc C) (hC : C = (n : Int)) (hn : n ≤ 140737488355328) (hb : base ≤ w.heap.size)
    (h : ∀ w', Own8 w' base (.slice (some ⟨w.heap.size, 0, none⟩) 0 n) [] → w.grownBy w' none → wpList Tryd.prog ops Q rest (a.put o.dst (.slice (some ⟨w.heap.size, 0, none⟩) 0 n)) w') : wpList Tryd.prog ops Q (o :: rest) a w := by
  obtain ⟨i0, hi0, hz0, hz1, hz2⟩ := info_parts u8info
  exact wpList_make_own w hgd l c _ ho base 5 i0 _ 1 Tryd.underlying64 hi0 hz0 hz1 kl kc C n hl hc hC (by rw [hz2]; omega) (by simp only [maxLen]; omega) hb h
end Go.Proofs.YtkbopeoaoakfnaaDoor

namespace Go.Proofs.YtkbopeoaoakfnaaDoor
open Go.RowKit Go.ChangeShapes Go.WideShapes Go.Deep
section
variable {H : Type}
theorem weights_head {t : TypeId} {ts : List TypeId} {d : DataW H} {r : List (DataW H)} {p : Nat → Bool} (h : (DataW.weightsEach Tryd.prog (t :: ts) (d :: r)).all p = true) : (d.weights Tryd.prog t).all p = true ∧ (DataW.weightsEach Tryd.prog ts r).all p = true := by
  simp only [DataW.weightsEach, List.all_append, Bool.and_eq_true] at h
  exact h
end
end Go.Proofs.YtkbopeoaoakfnaaDoor

namespace Go.Proofs.YtkbopeoaoakfnaaDoor
open Go.ChangeShapes Go.WideShapes Go.ChangeAt
theorem witness_row_shaped {H : Type} {enc : TypeId × Value → H} {C : Checked} {os : Os} {f : FuncId} {fn : Func} {s : OpenSpec} {conds : List PathCond} {apart : Bool} {laid : List (String × DataW Unit)} (w0 : World) (args : Array Value) (hos : w0.os = os)
    (hsh : (w0.forCall (fun _ _ => 0) ⟨#[], args, []⟩).Shaped C.prog)
    (hok : Input.okWideB C.prog (w0.forCall (fun _ _ => 0) ⟨#[], args, []⟩) f ⟨#[], args, []⟩ = true)
    (hrow : s.preRow enc C.prog fn conds apart laid (w0.forCall (fun _ _ => 0) ⟨#[], args, []⟩).memory args) :
    ∃ (w : World) (tape : Tape) (i : Input), w.os = os ∧ (w.forCall tape i).Shaped C.prog ∧ i.vars = [] ∧ Input.okWide C.prog (w.forCall tape i) .any w.heap.size f i ∧
      s.preRow enc C.prog fn conds apart laid (w.forCall tape i).memory i.args ∧ ({} : Assume).holds C.prog (lone (Frame.enter C.prog f i.args .normal) [] (w.forCall tape i)) :=
  ⟨w0, fun _ _ => 0, ⟨#[], args, []⟩, hos, hsh, (Input.okWide_of_okWideB (base := 0) hok).1, (Input.okWide_of_okWideB hok).2, hrow, by
    simp only [Assume.holds]
    exact ⟨by simp, by simp, fun _ => Modest.zero, by simp, by simp⟩⟩
end Go.Proofs.YtkbopeoaoakfnaaDoor

namespace Go.Proofs.YtkbopeoaoakfnaaDoor
open Go.ChangeShapes
theorem bulk_pos {H : Type} (d : DataW H) : 1 ≤ Rows.uptoBulk d := by
  cases d with
  | lit l => cases l <;> simp [Rows.uptoBulk]
  | _ => simp [Rows.uptoBulk]
theorem bulk_all {H : Type} : ∀ l : List (DataW H), l.length ≤ Rows.uptoBulkAll l
  | [] => Nat.le_refl _
  | d :: r => by
    have h1 := bulk_pos d
    have h2 := bulk_all r
    simp only [List.length_cons, Rows.uptoBulkAll]
    omega
theorem bulk_slice {H : Type} {es sp : List (DataW H)} {n : Nat} (h : Rows.uptoBulk (.slice es sp) ≤ n) : es.length ≤ n := by
  have h1 := bulk_all es
  simp only [Rows.uptoBulk] at h
  omega
theorem bulk_cons {H : Type} {d : DataW H} {r : List (DataW H)} {n : Nat} (h : Rows.uptoBulkAll (d :: r) ≤ n) : Rows.uptoBulk d ≤ n ∧ Rows.uptoBulkAll r ≤ n := by
  simp only [Rows.uptoBulkAll] at h
  omega
section
variable {H : Type} {enc : TypeId × Value → H}
theorem cond_sized {a : Assume} {C : Checked} {os : Os} {f : FuncId} {fn : Func} {s : OpenSpec} {k : (H : Type) → List (DataW H) → Bool} (hk : s.cond = some k) {F : Stop.Interp} {conds : List PathCond} {apart fresh handsOn again : Bool}
    (own : ownKnob C.prog.godebug = none) (started : os.Started) (noInit : C.prog.inits.idxOf? f = none) (hfn : C.prog.funcs[f]? = some fn)
    (witness : ∃ (w : World) (tape : Tape) (i : Input), w.os = os ∧ (w.forCall tape i).Shaped C.prog ∧ i.vars = [] ∧ Input.okWide C.prog (w.forCall tape i) .any w.heap.size f i ∧
      s.pre6 enc C.prog fn conds apart (w.forCall tape i).memory i.args ∧ a.holds C.prog (lone (Frame.enter C.prog f i.args .normal) [] (w.forCall tape i)))
    (contract : ∀ (W : World) (base : Nat) (args : Array Value) (ds gs : List (DataW H)) (before : List MemPlace),
      (∀ (j : Nat) t v, fn.params[j]? = some t → args[j]? = some v → Value.okWide C.prog W .any base t v) →
      DataW.Whole enc C.prog fn.params.toList s.vars apart W args.toList ds gs before → k H (ds ++ gs) = true →
      (DataW.weightsEach C.prog (fn.params.toList ++ s.bare.plain.varTypes C.prog) (ds ++ gs)).all (· ≤ reachBytes) = true →
      Calls C.prog f args W fun e W' => ∃ v, e = .returned v ∧ (s.at F).post enc C.prog fn apart fresh handsOn again W args v W') :
    ReturnsInHanded a C os f .any (s.pre6 enc C.prog fn conds apart) ((s.at F).post enc C.prog fn apart fresh handsOn again) := by
  refine returnsInHanded_of_calls own started noInit witness ?_
  intro w tape i _ _ _ hok hpre hholds
  obtain ⟨_, _, _, fn', hfn', _, _, _, _, hval⟩ := hok
  have e : fn' = fn := Option.some.inj (hfn'.symm.trans hfn)
  subst e
  obtain ⟨ds, gs, before, hw, _, hkk⟩ := (OpenSpec.pre_some hk conds apart _ _).1 hpre.1
  have hw' := DataW.Whole.of_heap (w' := w.forCall tape i) (by rfl) hw
  refine (contract (w.forCall tape i) w.heap.size i.args ds gs before hval hw' hkk (hpre.2.weights hw)).mono fun e W' ⟨v, he, hp⟩ => ?_
  subst he
  exact ChangeSpec.post_blind hp
end
end Go.Proofs.YtkbopeoaoakfnaaDoor
