/- The texts JT2 JT4 of this work, merged by wip/merge.py. No conditions. -/
import Derived.Test.YtkbopeoaoakfnaaDoorQJG
import Derived.Test.YtkbopeoaoakfnaaDoorQP
namespace Go.Proofs.YtkbopeoaoakfnaaDoor
open Go.RowKit
/-- A tree. -/
inductive TR where
  | mk (k : Int) (b : Bool) (s : List UInt8) (ks : List (List UInt8)) (ps : List TR)
def strs (ks : List (List UInt8)) : List Value := ks.map fun k => .string ⟨k.toArray⟩
/-- The cells of a tree; all that it is made of lies in F's blocks. -/
inductive IsT (w : World) (F : Nat → Prop) : List Value → TR → Prop where
  | mk (k : Int) (b : Bool) (s : List UInt8) (Ak : Option Addr) (ck : Nat) (ks : List (List UInt8)) (Ap : Option Addr) (cp : Nat) (uss : List (List Value)) (ps : List TR) (hu : uss.length = ps.length) (hk : Rd w F Ak (strs ks)) (hp : Rd w F Ap uss.flatten)
    (he : ∀ (i : Nat) (us : List Value) (t : TR), uss[i]? = some us → ps[i]? = some t → IsT w F us t) : IsT w F [.int .i64 k, .bool b, .string ⟨s.toArray⟩, .slice Ak ks.length ck, .slice Ap ps.length cp] (.mk k b s ks ps)
section
variable {w w' : World} {F F' : Nat → Prop} {us : List Value} {t : TR}
theorem IsT.keep (h : IsT w F us t) (hk : ∀ k, F k → w'.heap[k]? = w.heap[k]?) (hF : ∀ k, F k → F' k) : IsT w' F' us t := by
  induction h with
  | mk k b s Ak ck ks Ap cp uss ps hu h1 h2 _ ih => exact .mk k b s Ak ck ks Ap cp uss ps hu (h1.keep hk hF) (h2.keep hk hF) ih
theorem IsT.five (h : IsT w F us t) : us.length = 5 := by cases h; rfl
theorem IsT.cells (h : IsT w F us t) : (Value.agg us.toArray).cells = us.toArray := by cases h; rfl
end
/-- Row k of rows of five. -/
theorem flat5 : ∀ (uss : List (List Value)) (_ : ∀ us ∈ uss, us.length = 5) (k : Nat) (us : List Value), uss[k]? = some us → ∀ (i : Nat) (x : Value), us[i]? = some x → uss.flatten[k * 5 + i]? = some x
  | [], _, k, us, h, _, _, _ => by simp at h
  | u0 :: uss, h5, 0, us, h, i, x, hx => by
    simp at h
    subst h
    rw [List.flatten_cons, Nat.zero_mul, Nat.zero_add, List.getElem?_append_left (List.getElem?_eq_some_iff.1 hx).1]
    exact hx
  | u0 :: uss, h5, k + 1, us, h, i, x, hx => by
    have ih := flat5 uss (fun u hu => h5 u (List.mem_cons_of_mem _ hu)) k us (by simpa using h) i x hx
    have h0 := h5 u0 List.mem_cons_self
    rw [List.flatten_cons, List.getElem?_append_right (by omega), h0, show (k + 1) * 5 + i - 5 = k * 5 + i by omega]
    exact ih
theorem strs_get (ks : List (List UInt8)) (k : Nat) (key : List UInt8) (h : ks[k]? = some key) : (strs ks)[k]? = some (.string ⟨key.toArray⟩) := by
  unfold strs
  rw [List.getElem?_map, h]
  rfl
mutual
/-- What a tree is printed as by the reference. -/
def prT : TR → List UInt8
  | .mk k b s ks ps =>
    if k = 1 then (if b then [116, 114, 117, 101] else [102, 97, 108, 115, 101])
    else if k = 2 then s
    else if k = 3 then quoteB s
    else if k = 4 then 91 :: (prTL true ps ++ [93])
    else if k = 5 then 123 :: (prTO true ks ps ++ [125])
    else [110, 117, 108, 108]
def prTL : Bool → List TR → List UInt8
  | _, [] => []
  | f, j :: l => (if f then [] else [44]) ++ (prT j ++ prTL false l)
def prTO : Bool → List (List UInt8) → List TR → List UInt8
  | _, _, [] => []
  | f, ks, j :: l => (if f then [] else [44]) ++ (quoteB (ks.headD []) ++ (58 :: (prT j ++ prTO false ks.tail l)))
end
/-- Objects have a key for each part. -/
inductive Kd : TR → Prop where
  | mk (k : Int) (b : Bool) (s : List UInt8) (ks : List (List UInt8)) (ps : List TR) (h : k = 5 → ks.length = ps.length) (he : ∀ p ∈ ps, Kd p) : Kd (.mk k b s ks ps)
/-- The keys, as many as there are parts. -/
def keysOf (ks : List (List UInt8)) (n : Nat) : List (List UInt8) := (List.range n).map fun i => ks.getD i []
mutual
/-- A tree as a value. -/
def valT : TR → JV
  | .mk k b s ks ps =>
    if k = 0 then .null else if k = 1 then .bool b else if k = 2 then .num s else if k = 3 then .text s
    else if k = 4 then .list (valTL ps) else if k = 5 then .obj (keysOf ks ps.length) (valTL ps) else .nil
def valTL : List TR → List JV
  | [] => []
  | t :: l => valT t :: valTL l
end
mutual
/-- A tree as the document's. -/
def oursT : TR → TR
  | .mk k b s ks ps => .mk k b s (keysOf ks ps.length) (oursTL ps)
def oursTL : List TR → List TR
  | [] => []
  | t :: l => oursT t :: oursTL l
end
theorem valTL_map : ∀ l, valTL l = l.map valT
  | [] => rfl
  | t :: l => by rw [valTL, valTL_map l]; rfl
theorem oursTL_map : ∀ l, oursTL l = l.map oursT
  | [] => rfl
  | t :: l => by rw [oursTL, oursTL_map l]; rfl
theorem keysOf_len (ks : List (List UInt8)) (n : Nat) : (keysOf ks n).length = n := by simp [keysOf]
mutual
/-- Both print the same. -/
theorem print_same : ∀ t : TR, prT (oursT t) = prt (valT t)
  | .mk k b s ks ps => by
    rw [oursT, prT, valT]
    by_cases h0 : k = 0
    · subst h0; rfl
    by_cases h1 : k = 1
    · subst h1; cases b <;> rfl
    by_cases h2 : k = 2
    · subst h2; rfl
    by_cases h3 : k = 3
    · subst h3; rfl
    by_cases h4 : k = 4
    · subst h4
      rw [if_neg (by decide), if_neg (by decide), if_neg (by decide), if_pos rfl, if_neg (by decide), if_neg (by decide), if_neg (by decide), if_neg (by decide), if_pos rfl, prt, print_sameL true ps]
    by_cases h5 : k = 5
    · subst h5
      rw [if_neg (by decide), if_neg (by decide), if_neg (by decide), if_neg (by decide), if_pos rfl, if_neg (by decide), if_neg (by decide), if_neg (by decide), if_neg (by decide), if_neg (by decide), if_pos rfl, prt, print_sameO true _ ps]
    rw [if_neg h1, if_neg h2, if_neg h3, if_neg h4, if_neg h5, if_neg h0, if_neg h1, if_neg h2, if_neg h3, if_neg h4, if_neg h5, prt]
theorem print_sameL : ∀ (f : Bool) (l : List TR), prTL f (oursTL l) = prtL f (valTL l)
  | _, [] => rfl
  | f, t :: l => by rw [oursTL, valTL, prTL, prtL, print_same t, print_sameL false l]
theorem print_sameO : ∀ (f : Bool) (ks : List (List UInt8)) (l : List TR), prTO f ks (oursTL l) = prtO f ks (valTL l)
  | _, _, [] => rfl
  | f, ks, t :: l => by rw [oursTL, valTL, prTO, prtO, print_same t, print_sameO false ks.tail l]
end
mutual
theorem ours_kd : ∀ t : TR, Kd (oursT t)
  | .mk k b s ks ps => by
    rw [oursT]
    refine .mk _ _ _ _ _ (fun _ => by rw [keysOf_len, oursTL_map, List.length_map]) (ours_kdL ps)
theorem ours_kdL : ∀ (l : List TR), ∀ p ∈ oursTL l, Kd p
  | [], p, h => by rw [oursTL] at h; cases h
  | t :: l, p, h => by
    rw [oursTL] at h
    rcases List.mem_cons.1 h with rfl | h
    · exact ours_kd t
    · exact ours_kdL l p h
end
end Go.Proofs.YtkbopeoaoakfnaaDoor

namespace Go.Proofs.YtkbopeoaoakfnaaDoor
open Go.RowKit
theorem own_rd {w : World} {lo n sz : Nat} {t : TypeId} {v : Value} {xs : List Value} (hr : w.ownsRow lo t sz v n xs) : ∃ A c, v = .slice A n c ∧ n ≤ c ∧ Rd w (fun k => lo ≤ k ∧ k < w.heap.size) A xs := by
  have hr2 := hr
  obtain ⟨hl, h0 | ⟨b, cap, cur, rfl, hb, hh, hle, _⟩⟩ := hr
  · obtain ⟨rfl, hn⟩ := h0
    have hx : xs = [] := List.eq_nil_of_length_eq_zero (by rw [hl, hn]; omega)
    subst hx
    exact ⟨none, 0, by rw [hn], by omega, fun h0 => absurd rfl h0⟩
  · refine ⟨_, cap, rfl, hle, fun h0 => ⟨b, 0, rfl, ⟨hb, lt_of_heap hh⟩, fun j u hu => ?_⟩⟩
    obtain ⟨A, c, hv, _, hrd⟩ := ownR_form hr2
    cases hv
    obtain ⟨ad, e, _, hc⟩ := hrd.2 (by
      rcases Nat.eq_zero_or_pos n with h1 | h1
      · exact absurd (List.eq_nil_of_length_eq_zero (by rw [hl, h1]; omega)) h0
      · exact h1)
    cases e
    have := hc j u hu
    rwa [add_none] at this
theorem own_keep {w w' : World} {lo n sz : Nat} {t : TypeId} {v : Value} {xs : List Value} (hr : w.ownsRow lo t sz v n xs) (hk : ∀ k, v.ownBlock = some k → w'.heap[k]? = w.heap[k]?) : w'.ownsRow lo t sz v n xs := by
  obtain ⟨hl, h0 | ⟨b, cap, cur, e1, e2, e3, e4⟩⟩ := hr
  · exact ⟨hl, .inl h0⟩
  · exact ⟨hl, .inr ⟨b, cap, cur, e1, e2, (hk b (by rw [e1]; rfl)).trans e3, e4⟩⟩
/-- The keys and the parts of a tree that the call builds. -/
structure TT (w : World) (lo : Nat) (kv pv : Value) (ks : List (List UInt8)) (uss : List (List Value)) (ps : List TR) : Prop where
  keys : w.ownsRow lo 9 1 kv ks.length (strs ks)
  parts : w.ownsRow lo 35 5 pv ps.length uss.flatten
  len : uss.length = ps.length
  apart : ∀ k, kv.ownBlock = some k → pv.ownBlock ≠ some k
  each : ∀ (i : Nat) (us : List Value) (t : TR), uss[i]? = some us → ps[i]? = some t → IsT w (fun k => lo ≤ k ∧ k < w.heap.size ∧ kv.ownBlock ≠ some k ∧ pv.ownBlock ≠ some k) us t
section
variable {w w' w2 : World} {lo m : Nat} {kv pv kv' pv' : Value} {ks : List (List UInt8)} {uss : List (List Value)} {ps : List TR} {us : List Value} {t : TR}
theorem TT.nil (w : World) (lo : Nat) : TT w lo (.slice none 0 0) (.slice none 0 0) [] [] [] := ⟨World.ownsRow_nil w lo _ _, World.ownsRow_nil w lo _ _, rfl, (fun k h => by cases h), fun i u j h => by simp at h⟩
theorem TT.klt (h : TT w lo kv pv ks uss ps) : ∀ k, kv.ownBlock = some k → lo ≤ k ∧ k < w.heap.size := fun k hk => World.ownsRow.lt h.keys k hk
theorem TT.plt (h : TT w lo kv pv ks uss ps) : ∀ k, pv.ownBlock = some k → lo ≤ k ∧ k < w.heap.size := fun k hk => World.ownsRow.lt h.parts k hk
theorem TT.keep (h : TT w lo kv pv ks uss ps) (hs : w.heap.size ≤ w'.heap.size) (hk : ∀ k, lo ≤ k → k < w.heap.size → w'.heap[k]? = w.heap[k]?) : TT w' lo kv pv ks uss ps :=
  ⟨own_keep h.keys (fun k e => hk k (h.klt k e).1 (h.klt k e).2), own_keep h.parts (fun k e => hk k (h.plt k e).1 (h.plt k e).2), h.len, h.apart,
    fun i us t hu hj => (h.each i us t hu hj).keep (fun k hF => hk k hF.1 hF.2.1) (fun k hF => ⟨hF.1, by omega, hF.2.2⟩)⟩
theorem TT.below (h : TT w lo kv pv ks uss ps) (hb : Below w.heap.size w w') : TT w' lo kv pv ks uss ps := h.keep hb.size (fun k _ h2 => hb.block k h2)
theorem TT.setCell {p : Addr} (h : TT w lo kv pv ks uss ps) (hp : p.block < lo) (x : Value) : TT (w.setCell p x) lo kv pv ks uss ps := h.keep (by simp [World.setCell]) (fun k h1 _ => Below.heap_setCell _ _ _ _ (by omega))
/-- One key more behind. -/
theorem TT.key {key : List UInt8} {n : Nat} (h : TT w lo kv pv ks uss ps) (hn : n = ks.length + 1) (ho : w'.ownsRow lo 9 1 kv' n (strs ks ++ [.string ⟨key.toArray⟩])) (hg : w.grownBy w' kv.ownBlock) (hb : kv'.ownBlock = kv.ownBlock ∨ kv'.ownBlock = some w.heap.size) :
    TT w' lo kv' pv (ks ++ [key]) uss ps := by
  have hold : ∀ k, k < w.heap.size → kv.ownBlock ≠ some k → w'.heap[k]? = w.heap[k]? := fun k h1 h2 => hg.block k h1 (fun e => h2 e.symm)
  have hnew : ∀ k, k < w.heap.size → kv.ownBlock ≠ some k → kv'.ownBlock ≠ some k := fun k h1 h2 h3 => by
    rcases hb with e | e
    · exact h2 (e ▸ h3)
    · rw [e] at h3; injection h3 with h3; omega
  have hs : strs (ks ++ [key]) = strs ks ++ [.string ⟨key.toArray⟩] := by simp [strs]
  refine ⟨by rw [hs, List.length_append]; rw [hn] at ho; exact ho, own_keep h.parts (fun k e => hold k (h.plt k e).2 (fun e2 => h.apart k e2 e)), h.len, fun k e e2 => ?_, fun i us t hu hj => (h.each i us t hu hj).keep (fun k hF => hold k hF.2.1 hF.2.2.1) (fun k hF => ⟨hF.1, by have := hg.size; omega, hnew k hF.2.1 hF.2.2.1, hF.2.2.2⟩)⟩
  rcases hb with e3 | e3
  · exact h.apart k (e3 ▸ e) e2
  · rw [e3] at e; injection e with e
    have := (h.plt k e2).2
    omega
/-- One part more behind: its own blocks were made since m, where the rows lay below m. -/
theorem TT.part {n : Nat} {ys : List Value} (h : TT w lo kv pv ks uss ps) (hkm : ∀ k, kv.ownBlock = some k → k < m) (hpm : ∀ k, pv.ownBlock = some k → k < m) (hu : IsT w (fun k => m ≤ k ∧ k < w.heap.size) us t) (hb : Below w.heap.size w w2) (hn : n = ps.length + 1) (hys : ys = us)
    (ho : w'.ownsRow lo 35 5 pv' n (uss.flatten ++ ys)) (hg : w2.grownBy w' pv.ownBlock) (hb' : pv'.ownBlock = pv.ownBlock ∨ pv'.ownBlock = some w2.heap.size) (hlo : lo ≤ m) : TT w' lo kv pv' ks (uss ++ [us]) (ps ++ [t]) := by
  subst hys
  have hs1 := hb.size
  have hs2 := hg.size
  have hold : ∀ k, k < w.heap.size → pv.ownBlock ≠ some k → w'.heap[k]? = w.heap[k]? := fun k h1 h2 => (hg.block k (by omega) (fun e => h2 e.symm)).trans (hb.block k h1)
  have hnew : ∀ k, k < w.heap.size → pv.ownBlock ≠ some k → pv'.ownBlock ≠ some k := fun k h1 h2 h3 => by
    rcases hb' with e | e
    · exact h2 (e ▸ h3)
    · rw [e] at h3; injection h3 with h3; omega
  refine ⟨own_keep h.keys (fun k e => hold k (h.klt k e).2 (h.apart k e)), by rw [List.flatten_append, List.length_append]; rw [hn] at ho; simpa using ho, by simp [h.len], fun k e e2 => ?_, fun i us' t' hx hy => ?_⟩
  · rcases hb' with e3 | e3
    · exact h.apart k e (e3 ▸ e2)
    · rw [e3] at e2; injection e2 with e2
      have := (h.klt k e).2
      omega
  · rcases Nat.lt_or_ge i ps.length with hi | hi
    · rw [List.getElem?_append_left (by rw [h.len]; exact hi)] at hx
      rw [List.getElem?_append_left hi] at hy
      exact (h.each i us' t' hx hy).keep (fun k hF => hold k hF.2.1 hF.2.2.2) (fun k hF => ⟨hF.1, by omega, hF.2.2.1, hnew k hF.2.1 hF.2.2.2⟩)
    · have hi2 : i = ps.length := by
        have := (List.getElem?_eq_some_iff.1 hy).1
        simp at this
        omega
      subst hi2
      rw [← h.len] at hx
      simp at hx hy
      subst hx hy
      have hne : ∀ k, m ≤ k → pv.ownBlock ≠ some k := fun k h1 h2 => by have := hpm k h2; omega
      exact hu.keep (fun k hF => hold k hF.2 (hne k hF.1)) (fun k hF => ⟨by omega, by omega, fun e => by have := hkm k e; omega, hnew k hF.2 (hne k hF.1)⟩)
theorem TT.isT (h : TT w lo kv pv ks uss ps) (k : Int) (b : Bool) (s : List UInt8) : IsT w (fun k => lo ≤ k ∧ k < w.heap.size) [.int .i64 k, .bool b, .string ⟨s.toArray⟩, kv, pv] (.mk k b s ks ps) := by
  obtain ⟨Ak, ck, rfl, _, h1⟩ := own_rd h.keys
  obtain ⟨Ap, cp, rfl, _, h2⟩ := own_rd h.parts
  exact .mk k b s Ak ck ks Ap cp uss ps h.len h1 h2 (fun i us t hu hj => (h.each i us t hu hj).keep (fun k _ => rfl) (fun k hF => ⟨hF.1, hF.2.1⟩))
theorem TT.form (h : TT w lo kv pv ks uss ps) : ∃ Ak ck Ap cp, kv = .slice Ak ks.length ck ∧ pv = .slice Ap ps.length cp := by
  obtain ⟨Ak, ck, h1, _, _⟩ := own_rd h.keys
  obtain ⟨Ap, cp, h2, _, _⟩ := own_rd h.parts
  exact ⟨Ak, ck, Ap, cp, h1, h2⟩
end
end Go.Proofs.YtkbopeoaoakfnaaDoor
