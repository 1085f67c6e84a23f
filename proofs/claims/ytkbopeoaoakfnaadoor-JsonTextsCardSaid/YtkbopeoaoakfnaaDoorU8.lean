/- The laws on append, make and reads at this seat's []byte. No conditions. -/
import Derived.Test.YtkbopeoaoakfnaaDoorProg
import Derived.Test.YtkbopeoaoakfnaaDoorMem
import Derived.Test.YtkbopeoaoakfnaaDoorPlain
namespace Go.Proofs.YtkbopeoaoakfnaaDoor
open Go.RowKit
theorem u8info : (Tryd.prog.info? 5).map (fun i => (i.zero, i.size, i.bytes)) = some (some (.int .u8 0), 1, 1) := by kernel_rfl

/-- v is a slice of bytes that the call owns (from block 'base' on); its bytes are l. -/
def Own8 (w : World) (base : Nat) (v : Value) (l : List UInt8) : Prop := w.ownsRow base 5 1 v l.length (bvs l)

theorem Own8.alloc {w : World} {base : Nat} {v : Value} {l : List UInt8} (h : Own8 w base v l) (o : Obj) : Own8 (w.alloc o) base v l := World.ownsRow.alloc h o

theorem app8 {ops : Array Oper} {rest : List Oper} {o : Oper} {a : Act} {w : World} {Q : Exit → Act → World → Prop} {s x : Operand} {base B : Nat} {v : Value} {l : List UInt8} {A : Option Addr} {m c : Nat} {news : List UInt8}
    (hgd : o.guard = none) (ho : o.op = .call { callee := .builtin .append, args := #[s, x], argTypes := #[64, 64] })
    (hs : a.eval s = v) (hx : a.eval x = .slice A m c) (hown : Own8 w base v l) (hr : Reads w B 1 A m (bvs news)) (hbytes : l.length + m ≤ 140737488355328) (hbase : base ≤ w.heap.size)
    (h : ∀ v' w', Own8 w' base v' (l ++ news) → w.grownBy w' v.ownBlock → (v'.ownBlock = v.ownBlock ∨ v'.ownBlock = some w.heap.size) → wpList Tryd.prog ops Q rest (a.put o.dst v') w') : wpList Tryd.prog ops Q (o :: rest) a w := by
  obtain ⟨i0, hi0, hz0, hz1, hz2⟩ := info_parts u8info
  have hm : m = news.length := by have := hr.1; rw [bvs_length] at this; omega
  subst hm
  refine wpList_append_any w hgd s x _ ho base 5 i0 _ 1 1 Tryd.underlying64 hi0 hz0 hz1 hz2 rfl (by omega) v l.length (bvs l) hs hown B A _ c (bvs news) hx hr (bvs_one _) (by simp only [maxLen]; omega) (by omega) hbase ?_
  intro v' w' h1 h2 h3
  refine h v' w' ?_ h2 h3
  unfold Own8
  rw [List.length_append, bvs_append]
  exact h1
theorem Reads.bytes {w : World} {B n : Nat} {A : Option Addr} {l : List UInt8} (h : Reads w B 1 A n (bvs l)) (h0 : 0 < n) : ∃ b off, A = some ⟨b, off, none⟩ ∧ b < B ∧ ∀ k, k < n → w.cell? ⟨b, off + k, none⟩ = some (.int .u8 ((l.getD k 0).toNat : Int)) := by
  obtain ⟨b, off, _, rfl, hb, _, _⟩ := h.at_ h0
  refine ⟨b, off, rfl, hb, fun k hk => ?_⟩
  obtain ⟨b', off', u, he, _, hu, hc⟩ := h.at_ hk
  cases he
  have hl : k < l.length := by have := h.1; rw [bvs_length] at this; omega
  rw [hc]
  simp only [bvs, List.getElem?_map, List.getElem?_eq_getElem hl, Option.map_some, Option.some.injEq] at hu
  rw [← hu]
  simp [bv, List.getD, List.getElem?_eq_getElem hl]
theorem reads_new (w : World) (cs : Array Value) (t : TypeId) (n : Nat) (hn : cs.size = n) : Reads (w.alloc (.cells cs t)) (w.heap.size + 1) 1 (some ⟨w.heap.size, 0, none⟩) n cs.toList := by
  subst hn
  refine ⟨by simp, fun _ => ⟨_, rfl, by simp, fun j u hu => ?_⟩⟩
  have hj : j < cs.size := by
    have := (List.getElem?_eq_some_iff.1 hu).1
    simpa using this
  have hadd : (⟨w.heap.size, 0, none⟩ : Addr).add j = ⟨w.heap.size, j, none⟩ := by unfold Addr.add; split <;> simp_all
  rw [hadd, cell_of_row _ w.heap.size j cs t (0, 0) (heap_alloc_new w _)]
  simpa using hu

theorem be4_cells (m : Nat) (hm : m < 4294967296) : bvs (be4 m) = [.int .u8 ((m : Int) / 16777216), .int .u8 ((m : Int) / 65536 % 256), .int .u8 ((m : Int) / 256 % 256), .int .u8 ((m : Int) % 256)] := by
  simp [bvs, be4, bv]
  omega

/-- The slice '.slice A ls.length c' is a list of byte slices that read as ls. -/
def Lists (w : World) (B : Nat) (A : Option Addr) (ls : List (List UInt8)) : Prop :=
  ∃ vs : List Value, Reads w B 1 A ls.length vs ∧ ∀ (i : Nat) (h : i < ls.length), ∃ A' c', vs[i]? = some (.slice A' ls[i].length c') ∧ ls[i].length ≤ c' ∧ Reads w B 1 A' ls[i].length (bvs ls[i])
theorem Lists.at_ {w : World} {B : Nat} {A : Option Addr} {ls : List (List UInt8)} (h : Lists w B A ls) (k : Nat) (hk : k < ls.length) :
    ∃ l b off A' c', Hid (ls[k] = l) ∧ A = some ⟨b, off, none⟩ ∧ b < B ∧ w.cell? ⟨b, off + k, none⟩ = some (.slice A' l.length c') ∧ l.length ≤ c' ∧ Reads w B 1 A' l.length (bvs l) := by
  obtain ⟨vs, hr, hi⟩ := h
  obtain ⟨A', c', hv, hle, hr'⟩ := hi k hk
  obtain ⟨b, off, u, rfl, hb, hu, hc⟩ := hr.at_ hk
  rw [hu] at hv; cases hv
  exact ⟨_, b, off, A', c', rfl, rfl, hb, hc, hle, hr'⟩
theorem Lists.below {w w' : World} {B : Nat} {A : Option Addr} {ls : List (List UInt8)} (h : Lists w B A ls) (hb : Below B w w') : Lists w' B A ls := by
  obtain ⟨vs, hr, hi⟩ := h
  refine ⟨vs, hr.below hb, fun i hlt => ?_⟩
  obtain ⟨A', c', h1, h2, h3⟩ := hi i hlt
  exact ⟨A', c', h1, h2, h3.below hb⟩
theorem Lists.more {w : World} {B B' : Nat} {A : Option Addr} {ls : List (List UInt8)} (h : Lists w B A ls) (hB : B ≤ B') : Lists w B' A ls := by
  obtain ⟨vs, hr, hi⟩ := h
  refine ⟨vs, hr.more hB, fun i hlt => ?_⟩
  obtain ⟨A', c', h1, h2, h3⟩ := hi i hlt
  exact ⟨A', c', h1, h2, h3.more hB⟩
theorem Lists.at_b {w w' : World} {B : Nat} {A : Option Addr} {ls : List (List UInt8)} (h : Lists w B A ls) (hbel : Below B w w') (k : Nat) (hk : k < ls.length) :
    ∃ l b off A' c', Hid (ls[k] = l) ∧ A = some ⟨b, off, none⟩ ∧ b < B ∧ w'.cell? ⟨b, off + k, none⟩ = some (.slice A' l.length c') ∧ l.length ≤ c' ∧ Reads w B 1 A' l.length (bvs l) := by
  obtain ⟨l, b, off, A', c', h1, h2, h3, h4, h5, h6⟩ := h.at_ k hk
  exact ⟨l, b, off, A', c', h1, h2, h3, (hbel.cell (p := ⟨b, off + k, none⟩) h3).trans h4, h5, h6⟩
theorem own8_nil (w : World) (base : Nat) : Own8 w base (.slice none 0 0) [] := World.ownsRow_nil w base _ 1
theorem below_own8 {a w w' : World} {v : Value} {l : List UInt8} (h : Below a.heap.size a w) (ho : Own8 w a.heap.size v l) (hg : w.grownBy w' v.ownBlock) : Below a.heap.size a w' :=
  h.grown hg h.size (fun k hk => (World.ownsRow.lt ho k hk).1)
theorem below_none {a w w' : World} (h : Below a.heap.size a w) (hg : w.grownBy w' none) : Below a.heap.size a w' := h.grown hg h.size (fun k hk => by cases hk)
theorem make8 {ops : Array Oper} {rest : List Oper} {o : Oper} {a : Act} {w : World} {Q : Exit → Act → World → Prop} {l c : Operand} {base n : Nat} {kl kc : IntKind} {C : Int}
    (hgd : o.guard = none) (ho : o.op = Op.makeSlice 64 l c) (hl : a.eval l = .int kl 0) (hc : a.eval c = .int kc C) (hC : C = (n : Int)) (hn : n ≤ 140737488355328) (hb : base ≤ w.heap.size)
    (h : ∀ w', Own8 w' base (.slice (some ⟨w.heap.size, 0, none⟩) 0 n) [] → w.grownBy w' none → wpList Tryd.prog ops Q rest (a.put o.dst (.slice (some ⟨w.heap.size, 0, none⟩) 0 n)) w') : wpList Tryd.prog ops Q (o :: rest) a w := by
  obtain ⟨i0, hi0, hz0, hz1, hz2⟩ := info_parts u8info
  exact wpList_make_own w hgd l c _ ho base 5 i0 _ 1 Tryd.underlying64 hi0 hz0 hz1 kl kc C n hl hc hC (by rw [hz2]; omega) (by simp only [maxLen]; omega) hb h
end Go.Proofs.YtkbopeoaoakfnaaDoor
