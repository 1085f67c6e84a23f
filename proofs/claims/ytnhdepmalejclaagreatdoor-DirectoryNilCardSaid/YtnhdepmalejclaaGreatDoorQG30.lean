/- The texts DN2 RS3 NDoor RS4 of this work, merged by wip/merge.py. No conditions. -/
import Derived.Test.YtnhdepmalejclaaGreatDoorQG29
import Derived.Test.YtnhdepmalejclaaGreatDoorQG24
import Derived.Test.YtnhdepmalejclaaGreatDoorQG05
import Derived.Test.YtnhdepmalejclaaGreatDoorQG07
import Derived.Test.YtnhdepmalejclaaGreatDoorRows
import Derived.Test.YtnhdepmalejclaaGreatDoorQG21
import Derived.Lib.LaidU8
import Derived.Lib.LaidTab
import Derived.SevenTiedAt
namespace Go.Proofs.YtnhdepmalejclaaGreatDoor
open Go.RowKit Go.Lib
def dirCs (k : KeyV) (S : Value) (n m : Nat) : Array Value := (k.cs.toList ++ [Value.slice none 0 0, S, .pointer (some ⟨n, 0, none⟩), .pointer none, .slice none 0 0, .int .i64 0, .map (some m)]).toArray
theorem dirCs_size {k : KeyV} (h : k.ok) (S : Value) (n m : Nat) : (dirCs k S n m).size = 72 := by have := KeyV.size h; simp [dirCs, this]
def dirPl : List (Nat × Nat) := [(0, 65), (65, 1), (66, 1), (67, 1), (68, 1), (69, 1), (70, 1), (71, 1)]
set_option maxRecDepth 100000 in
theorem built_dir0 (ps : List (Nat × Value)) : (Tryz.prog).built 78 ps = Instr.fill (dirPl.toArray[·]?) (keyZ.cs.toList ++ [Value.slice none 0 0, .slice none 0 0, .pointer none, .pointer none, .slice none 0 0, .int .i64 0, .map none]).toArray ps := by kernel_rfl
theorem built_dir {k : KeyV} {n m : Nat} (h : k.ok) : (Tryz.prog).built 78 [(0, .agg k.cs), (3, .pointer (some ⟨n, 0, none⟩)), (7, .map (some m))] = some (dirCs k (.slice none 0 0) n m) := by
  rw [built_dir0]
  have lz : keyZ.cs.toList.length = 65 := by rw [Array.length_toList]; exact KeyV.size ⟨rfl, rfl⟩
  have lk : k.cs.toList.length = 65 := by rw [Array.length_toList]; exact KeyV.size h
  generalize keyZ.cs.toList = z at lz
  refine Eq.trans (Bd.fill_seg [] z k.cs.toList [Value.slice none 0 0, .slice none 0 0, .pointer none, .pointer none, .slice none 0 0, .int .i64 0, .map none] rfl (by rw [Array.toArray_toList]; rfl) (by rw [lk]; rfl) (by rw [lz, lk])) ?_
  refine Eq.trans (Bd.fill_seg (k.cs.toList ++ [Value.slice none 0 0, .slice none 0 0]) [Value.pointer none] [Value.pointer (some ⟨n, 0, none⟩)] [Value.pointer none, .slice none 0 0, .int .i64 0, Value.map none] (by simp) rfl (by rw [List.length_append, lk]; rfl) rfl) ?_
  refine Eq.trans (Bd.fill_seg (k.cs.toList ++ [Value.slice none 0 0, .slice none 0 0, .pointer (some ⟨n, 0, none⟩), .pointer none, .slice none 0 0, .int .i64 0]) [Value.map none] [Value.map (some m)] [] (by simp) rfl (by rw [List.length_append, lk]; rfl) rfl) ?_
  rw [Instr.fill]
  congr 1
  simp [dirCs]
theorem put_steps {k : KeyV} (h : k.ok) (S S' : Value) (n m : Nat) : (dirCs k S n m).setIfInBounds 66 S' = dirCs k S' n m := by
  have lk : k.cs.toList.length = 65 := by rw [Array.length_toList]; exact KeyV.size h
  unfold dirCs
  rw [List.setIfInBounds_toArray]
  congr 1
  rw [List.set_append_right _ _ (by omega), lk]
  rfl
/-- A root that has but its tree's hash. -/
def hashRoot (l : List UInt8) : RootV := ⟨0, 0, 0, List.replicate 32 0, l, List.replicate 32 0, List.replicate 64 0⟩
theorem hashRoot_ok {l : List UInt8} (h : l.length = 32) : (hashRoot l).ok := ⟨(by show 0 < 18446744073709551616; decide), (by show 0 < 18446744073709551616; decide), (by show 0 < 18446744073709551616; decide), List.length_replicate .., h, List.length_replicate .., List.length_replicate ..⟩
def rootPl2 : List (Nat × Nat) := [(0, 1), (1, 1), (2, 1), (3, 32), (35, 32), (67, 32), (99, 64)]
set_option maxRecDepth 100000 in
theorem built_hash0 (ps : List (Nat × Value)) : (Tryz.prog).built 28 ps = Instr.fill (rootPl2.toArray[·]?) rootZ0.cs ps := by kernel_rfl
theorem built_hash {l : List UInt8} (hl : l.length = 32) : (Tryz.prog).built 28 [(4, .agg (bvs l).toArray)] = some (hashRoot l).cs := by
  rw [built_hash0]
  obtain ⟨z32, hz⟩ : ∃ z, z = bvs (List.replicate 32 0) := ⟨_, rfl⟩
  obtain ⟨z64, hz6⟩ : ∃ z, z = bvs (List.replicate 64 0) := ⟨_, rfl⟩
  have lz : z32.length = 32 := by rw [hz, bvs_length, List.length_replicate]
  have e : rootZ0.cs = (([Value.int .u64 0, .int .u64 0, .int .u64 0] ++ z32) ++ (z32 ++ (z32 ++ z64))).toArray := by rw [hz, hz6]; simp [rootZ0, RootV.cs, RootV.vs]
  rw [e]
  refine Eq.trans (Bd.fill_seg ([Value.int .u64 0, .int .u64 0, .int .u64 0] ++ z32) z32 (bvs l) (z32 ++ z64) rfl rfl (by rw [List.length_append, bvs_length, lz, hl]; rfl) (by rw [lz, bvs_length, hl])) ?_
  rw [Instr.fill]
  congr 1
  rw [hz, hz6]
  simp [hashRoot, RootV.cs, RootV.vs]
/-- A step that has but a root. -/
def stepCs (r : RootV) : Array Value := (r.cs.toList ++ [Value.slice none 0 0, .slice none 0 0, .slice none 0 0]).toArray
theorem stepCs_size {r : RootV} (h : r.ok) : (stepCs r).size = 166 := by have := RootV.size h; simp [stepCs, this]
def stepPl : List (Nat × Nat) := [(0, 163), (163, 1), (164, 1), (165, 1)]
set_option maxRecDepth 100000 in
theorem built_step0 (ps : List (Nat × Value)) : (Tryz.prog).built 58 ps = Instr.fill (stepPl.toArray[·]?) (stepCs rootZ0) ps := by kernel_rfl
theorem built_step {r : RootV} (h : r.ok) : (Tryz.prog).built 58 [(0, .agg r.cs)] = some (stepCs r) := by
  rw [built_step0]
  have hz0 : rootZ0.ok := ⟨by decide, by decide, by decide, by decide, by decide, by decide, by decide⟩
  have lz : rootZ0.cs.toList.length = 163 := by rw [Array.length_toList]; exact RootV.size hz0
  have lk : r.cs.toList.length = 163 := by rw [Array.length_toList]; exact RootV.size h
  unfold stepCs
  generalize rootZ0.cs.toList = z at lz
  refine Eq.trans (Bd.fill_seg [] z r.cs.toList [Value.slice none 0 0, .slice none 0 0, .slice none 0 0] rfl (by rw [Array.toArray_toList]; rfl) (by rw [lk]; rfl) (by rw [lz, lk])) ?_
  rw [Instr.fill]
  rfl
/-- A directory of the epoch 0. -/
structure Dir0 (w : World) (B g gs gn gl gm : Nat) (k : KeyV) (r : RootV) (s v : List UInt8) : Prop where
  g_ : B ≤ g
  gs_ : B ≤ gs
  gm_ : B ≤ gm
  row : w.heap[g]? = some (.cells (dirCs k (.slice (some ⟨gs, 0, none⟩) 1 1) gn gm) 78 (0, 0))
  steps : w.heap[gs]? = some (.cells (stepCs r) 58 (0, 0))
  now : Gen0 w B gn gl s v
  accounts : w.heap[gm]? = some (.map #[] 0)
theorem Dir0.below {w w' : World} {B g gs gn gl gm : Nat} {k : KeyV} {r : RootV} {s v : List UInt8} (h : Dir0 w B g gs gn gl gm k r s v) (hb : Below w.heap.size w w') : Dir0 w' B g gs gn gl gm k r s v :=
  ⟨h.g_, h.gs_, h.gm_, (hb.block _ (lt_of_some h.row)).trans h.row, (hb.block _ (lt_of_some h.steps)).trans h.steps, h.now.below hb, (hb.block _ (lt_of_some h.accounts)).trans h.accounts⟩
def newRoot (Kt Kq : List Int) (secret : List UInt8) : RootV := signRootF Kt Kq secret (hashRoot (root0F Kt))
theorem newRoot_ok (Kt Kq : List Int) (secret : List UInt8) : (newRoot Kt Kq secret).ok := by
  unfold newRoot
  have h : (root0F Kt).length = 32 := by unfold root0F; exact sumF_len _ _
  generalize root0F Kt = l at h
  exact signRootF_ok _ _ _ (hashRoot_ok h)
def DirPost (Kt Kq : List Int) (secret : List UInt8) (w : World) (e : Ending) (w' : World) : Prop := ∃ g gs gn gl gm, e = .returned (.pointer (some ⟨g, 0, none⟩)) ∧ Dir0 w' w.heap.size g gs gn gl gm (keysF Kt Kq secret 0) (newRoot Kt Kq secret) secret (seedF Kt [118, 114, 102] secret) ∧ Below w.heap.size w w'
/-- A generation that was begun. -/
def Tell.gen (B : Nat) (s v : List UInt8) : Tell := ⟨fun u => ∃ g, u = .pointer (some ⟨g, 0, none⟩), fun _ u w => ∀ g, u = .pointer (some ⟨g, 0, none⟩) → ∃ gl, Gen0 w B g gl s v, fun _ => none⟩
theorem Tell.gen_good (B : Nat) (s v : List UInt8) : (Tell.gen B s v).Good := ⟨⟨_, 0, rfl⟩, fun _ _ _ _ h hb g e => by obtain ⟨gl, h1⟩ := h g e; exact ⟨gl, h1.below hb⟩⟩
set_option maxRecDepth 100000 in
theorem rg_begin {l : List Oper} {w0 : World} {K : List (Nat × (World → Prop)) → List (Option Nat) → Act → Prop} {r : List (Oper × Option Tell)} {k : Nat} {fs : List (Nat × (World → Prop))} {bs : List (Option Nat)} {a : Act} {o : Oper} {B : Nat} (hB : B ≤ w0.heap.size) (Kt : List Int) (secret : List UInt8) (xs : List Operand) {ts : Array TypeId} (ho : o.op = .call { callee := .value (.func 30), args := xs.toArray, argTypes := ts }) {vs : List Value} (hx : xs.map a.eval = vs)
    (hc : ∀ w, Below w0.heap.size w0 w → Calls Tryz.prog 30 vs.toArray w (BeginPost Kt secret w))
    (hK : ∀ g, rgWalk Tryz.prog l w0 K r (k + 1) (fs ++ [(k, fun w => ∃ gl, Gen0 w B g gl secret (seedF Kt [118, 114, 102] secret))]) (bs ++ [none]) (a.put o.dst (.pointer (some ⟨g, 0, none⟩)))) : rgWalk Tryz.prog l w0 K ((o, some (Tell.gen B secret (seedF Kt [118, 114, 102] secret))) :: r) k fs bs a := by
  refine rg_call_t _ 30 xs ho hx (fun _ _ => rfl) (fun w hb ht => (hc w hb).mono fun e w' h => ?_) (fun v hv => ?_)
  · obtain ⟨g, gl, e1, hg, hb'⟩ := h
    have := hb.size
    exact ⟨_, e1, ⟨g, rfl⟩, fun g' e2 => (by cases e2; exact ⟨gl, by have := hg.g_; omega, by have := hg.gl_; omega, hg.row, hg.labels⟩), hb', fun b hb => by cases hb⟩
  · obtain ⟨g, rfl⟩ := hv
    have h1 := hK g
    have e : (fun w : World => ∃ gl, Gen0 w B g gl secret (seedF Kt [118, 114, 102] secret)) = (Tell.gen B secret (seedF Kt [118, 114, 102] secret)).holds (argsOf l.toArray o a) (.pointer (some ⟨g, 0, none⟩)) := by
      funext w
      apply propext
      refine ⟨fun h g' e => ?_, fun h => h g rfl⟩
      cases e
      exact h
    rw [e] at h1
    exact h1
section
variable {ops : Array Oper} {rest : List Oper} {o : Oper} {a : Act} {w0 w : World} {Q : Exit → Act → World → Prop} {bs : List (Nat × Array Value × TypeId)}
/-- A new slice of one struct. -/
theorem s_slice1 (F : BK w0 w bs) {x : Operand} {cs : Array Value} {t e : TypeId} {s : Nat} {ie : TypeInfo} {z : Value} (hg : o.guard = none) (ho : o.op = .buildSlice t 1 #[(0, x)])
    (hx : a.eval x = .agg cs) (hl : cs.size = s) (hu : Tryz.prog.underlying t = some (.slice e)) (hie : Tryz.prog.info? e = some ie) (hz : ie.zero = some z) (hsz : ie.size = s) (hs : 0 < s ∧ s ≤ 1000)
    (h : ∀ w' b, BK w0 w' ((b, cs, e) :: bs) → Below w.heap.size w w' → wpList Tryz.prog ops Q rest (a.put o.dst (.slice (some ⟨b, 0, none⟩) 1 1)) w') : wpList Tryz.prog ops Q (o :: rest) a w :=
  slice1 hg ho hx hl hu hie hz hsz hs (h _ _ (F.alloc rfl cs e) ((Below.refl _ _).alloc (Nat.le_refl _) _))
/-- One cell is written; all other blocks stay. -/
theorem s_setSteps (F : BK w0 w bs) (hg : o.guard = none) {x y : Operand} (ho : o.op = .store 73 x y) (i : Nat) {b : Nat} {c : Array Value} {t : TypeId} (hi : bs[i]? = some (b, c, t)) (k : Nat) (hk : k < c.size) (hx : a.eval x = .pointer (some ⟨b, k, none⟩))
    {A : Option Addr} {n m : Nat} (hy : a.eval y = .slice A n m) (h : ∀ w', BK w0 w' (bs.set i (b, c.setIfInBounds k (.slice A n m), t)) → (∀ j, j ≠ b → w'.heap[j]? = w.heap[j]?) → wpList Tryz.prog ops Q rest (a.put o.dst undef) w') : wpList Tryz.prog ops Q (o :: rest) a w := by
  refine wpList_plain hg fun K hK => ?_
  have h2 := F.cell i hi k
  rw [Array.getElem?_eq_getElem hk] at h2
  have h3 := F.free i hi k
  have h4 := hK _ _ (h _ (F.put1 i hi k _) (fun _ hj => Below.heap_setCell _ _ _ _ hj))
  unfold Oper.wp execOp
  simp only [ho, hx, hy]
  simp [go_sem, h2, h3]
  exact h4
end
section
variable {ops : Array Oper} {rest : List Oper} {o : Oper} {a : Act} {w : World} {Q : Exit → Act → World → Prop}
theorem s_build (hg : o.guard = none) {t : TypeId} {parts : List (Nat × Operand)} (ho : o.op = .build t parts.toArray) {ps : List (Nat × Value)} (hx : parts.map (fun p => (p.1, a.eval p.2)) = ps) {cells : Array Value} (hb : (Tryz.prog).built t ps = some cells)
    (h : wpList Tryz.prog ops Q rest (a.put o.dst (.agg cells)) w) : wpList Tryz.prog ops Q (o :: rest) a w := by
  refine wpList_plain hg fun _ hK => ?_
  have e : (parts.toArray.map fun x => match x with | (i, x) => (i, a.eval x)) = ps.toArray := by rw [List.map_toArray, ← hx]
  unfold Oper.wp execOp
  simp only [ho, e, run_build w t ps.toArray cells (by simpa using hb), Sem.run_bind, Sem.run_pure, Result.andThen_ok]
  exact hK _ _ h
end
theorem stepInfo : ∃ ie z, Tryz.prog.info? 58 = some ie ∧ ie.zero = some z ∧ ie.size = 166 := by
  have h : (Tryz.prog.info? 58).map (fun i => (i.zero.isSome, i.size)) = some (true, 166) := by kernel_rfl
  cases hi : Tryz.prog.info? 58 with
  | none => rw [hi] at h; cases h
  | some i =>
    rw [hi] at h
    simp only [Option.map_some, Option.some.injEq, Prod.mk.injEq] at h
    obtain ⟨z, hz⟩ := Option.isSome_iff_exists.1 h.1
    exact ⟨i, z, rfl, hz, h.2⟩
end Go.Proofs.YtnhdepmalejclaaGreatDoor

namespace Go.Proofs.YtnhdepmalejclaaGreatDoor
open Go.RowKit Go.Lib
def kR256 : List Int := [1116352408, 1899447441, 3049323471, 3921009573, 961987163, 1508970993, 2453635748, 2870763221, 3624381080, 310598401, 607225278, 1426881987, 1925078388, 2162078206, 2614888103, 3248222580, 3835390401, 4022224774, 264347078, 604807628, 770255983, 1249150122, 1555081692, 1996064986, 2554220882, 2821834349, 2952996808, 3210313671, 3336571891, 3584528711, 113926993, 338241895, 666307205, 773529912, 1294757372, 1396182291, 1695183700, 1986661051, 2177026350, 2456956037, 2730485921, 2820302411, 3259730800, 3345764771, 3516065817, 3600352804, 4094571909, 275423344, 430227734, 506948616, 659060556, 883997877, 958139571, 1322822218, 1537002063, 1747873779, 1955562222, 2024104815, 2227730452, 2361852424, 2428436474, 2756734187, 3204031479, 3329325298]
def kR512 : List Int := [4794697086780616226, 8158064640168781261, 13096744586834688815, 16840607885511220156, 4131703408338449720, 6480981068601479193, 10538285296894168987, 12329834152419229976, 15566598209576043074, 1334009975649890238, 2608012711638119052, 6128411473006802146, 8268148722764581231, 9286055187155687089, 11230858885718282805, 13951009754708518548, 16472876342353939154, 17275323862435702243, 1135362057144423861, 2597628984639134821, 3308224258029322869, 5365058923640841347, 6679025012923562964, 8573033837759648693, 10970295158949994411, 12119686244451234320, 12683024718118986047, 13788192230050041572, 14330467153632333762, 15395433587784984357, 489312712824947311, 1452737877330783856, 2861767655752347644, 3322285676063803686, 5560940570517711597, 5996557281743188959, 7280758554555802590, 8532644243296465576, 9350256976987008742, 10552545826968843579, 11727347734174303076, 12113106623233404929, 14000437183269869457, 14369950271660146224, 15101387698204529176, 15463397548674623760, 17586052441742319658, 1182934255886127544, 1847814050463011016, 2177327727835720531, 2830643537854262169, 3796741975233480872, 4115178125766777443, 5681478168544905931, 6601373596472566643, 7507060721942968483, 8399075790359081724, 8693463985226723168, 9568029438360202098, 10144078919501101548, 10430055236837252648, 11840083180663258601, 13761210420658862357, 14299343276471374635, 14566680578165727644, 15097957966210449927, 16922976911328602910, 17689382322260857208, 500013540394364858, 748580250866718886, 1242879168328830382, 1977374033974150939, 2944078676154940804, 3659926193048069267, 4368137639120453308, 4836135668995329356, 5532061633213252278, 6448918945643986474, 6902733635092675308, 7801388544844847127]
section
variable {ops : Array Oper} {rest : List Oper} {o : Oper} {a : Act} {w0 w : World} {Q : Exit → Act → World → Prop} {bs : List (Nat × Array Value × TypeId)}
/-- The same; all other blocks stay. -/
theorem s_set32f (F : BK w0 w bs) (hg : o.guard = none) {x y : Operand} (ho : o.op = .store 171 x y) (i : Nat) {b : Nat} {c : Array Value} {t : TypeId} (hi : bs[i]? = some (b, c, t)) (k : Nat) (hk : k < c.size) (hx : a.eval x = .pointer (some ⟨b, k, none⟩))
    (n : Int) (hy : a.eval y = .int .u32 n) (h : ∀ w', BK w0 w' (bs.set i (b, c.setIfInBounds k (.int .u32 n), t)) → (∀ j, j ≠ b → w'.heap[j]? = w.heap[j]?) → wpList Tryz.prog ops Q rest (a.put o.dst undef) w') : wpList Tryz.prog ops Q (o :: rest) a w := by
  refine wpList_plain hg fun K hK => ?_
  have h2 := F.cell i hi k
  rw [Array.getElem?_eq_getElem hk] at h2
  have h3 := F.free i hi k
  have h4 := hK _ _ (h _ (F.put1 i hi k _) (fun _ hj => Below.heap_setCell _ _ _ _ hj))
  unfold Oper.wp execOp
  simp only [ho, hx, hy]
  simp [go_sem, h2, h3]
  exact h4
theorem s_set64f (F : BK w0 w bs) (hg : o.guard = none) {x y : Operand} (ho : o.op = .store 24 x y) (i : Nat) {b : Nat} {c : Array Value} {t : TypeId} (hi : bs[i]? = some (b, c, t)) (k : Nat) (hk : k < c.size) (hx : a.eval x = .pointer (some ⟨b, k, none⟩))
    (n : Int) (hy : a.eval y = .int .u64 n) (h : ∀ w', BK w0 w' (bs.set i (b, c.setIfInBounds k (.int .u64 n), t)) → (∀ j, j ≠ b → w'.heap[j]? = w.heap[j]?) → wpList Tryz.prog ops Q rest (a.put o.dst undef) w') : wpList Tryz.prog ops Q (o :: rest) a w := by
  refine wpList_plain hg fun K hK => ?_
  have h2 := F.cell i hi k
  rw [Array.getElem?_eq_getElem hk] at h2
  have h3 := F.free i hi k
  have h4 := hK _ _ (h _ (F.put1 i hi k _) (fun _ hj => Below.heap_setCell _ _ _ _ hj))
  unfold Oper.wp execOp
  simp only [ho, hx, hy]
  simp [go_sem, h2, h3]
  exact h4
/-- A whole block is written; all other blocks stay. -/
theorem s_storef (F : BK w0 w bs) (hg : o.guard = none) {ty : TypeId} {x y : Operand} (ho : o.op = .store ty x y) (i : Nat) {b : Nat} {c : Array Value} {t : TypeId} (hi : bs[i]? = some (b, c, t)) (hx : a.eval x = .pointer (some ⟨b, 0, none⟩))
    (v : Array Value) (hy : a.eval y = .agg v) (hs : v.size = c.size) (hsz : (Tryz.prog.info? ty).map (·.size) = some v.size) (h1 : v.all (·.oneCell') = true)
    (h : ∀ w', BK w0 w' (bs.set i (b, v, t)) → (∀ j, j ≠ b → w'.heap[j]? = w.heap[j]?) → wpList Tryz.prog ops Q rest (a.put o.dst undef) w') : wpList Tryz.prog ops Q (o :: rest) a w :=
  wpList_store_mid hg ty x y ho b 0 v hx hy (by rw [hs]; exact F.there i hi) hsz h1 (h _ (F.put i hi v hs) (fun _ hj => heap_setCells_ne hj _ _ _))
/-- A new block, and that it is new. -/
theorem s_allocN (F : BK w0 w bs) (hg : o.guard = none) {ty : TypeId} (ho : o.op = .alloc ty) {cs : Array Value} (hz : ∀ w, (zeroValue ty).run Tryz.prog w = .ok (.agg cs) w) {s : Nat} (hd : o.dst = some s)
    (h : ∀ w' b, BK w0 w' ((b, cs, ty) :: bs) → Below w.heap.size w w' → w.heap.size ≤ b → wpList Tryz.prog ops Q rest (a.put (some s) (.pointer (some ⟨b, 0, none⟩))) w') : wpList Tryz.prog ops Q (o :: rest) a w := by
  refine wpList_plain hg fun _ hK => ?_
  unfold Oper.wp execOp
  have h1 : (Instr.alloc ty true (.tuple #[])).run Tryz.prog w = .ok (.pointer (some ⟨w.heap.size, 0, none⟩)) (w.alloc (.cells cs ty)) := by
    simp only [Instr.alloc, hz, Sem.run_bind, Sem.run_pure, Result.andThen_ok]
    rfl
  simp only [ho, h1, Sem.run_bind, Sem.run_pure, Result.andThen_ok]
  refine hK _ _ ?_
  rw [hd]
  exact h _ _ (F.alloc rfl cs ty) ((Below.refl _ _).alloc (Nat.le_refl _) _) (Nat.le_refl _)
end
/-- Bytes that lie in a block. -/
def Msg (w : World) (b off M : Nat) (y : List UInt8) : Prop := b < w.heap.size ∧ ∀ j, j < M → w.cell? ⟨b, off + j, none⟩ = some (.int .u8 ((y.getD j 0).toNat : Int))
theorem Msg.same {w w' : World} {b off M : Nat} {y : List UInt8} (h : Msg w b off M y) (e : w'.heap[b]? = w.heap[b]?) : Msg w' b off M y := by
  have hs : b < w'.heap.size := by
    rw [Array.getElem?_eq_getElem h.1] at e
    exact (Array.getElem?_eq_some_iff.1 e).1
  refine ⟨hs, fun j hj => ?_⟩
  have h1 := h.2 j hj
  unfold World.cell? at h1 ⊢
  simp only at h1 ⊢
  rw [e]
  exact h1
theorem Msg.bel {w w' : World} {b off M : Nat} {y : List UInt8} (h : Msg w b off M y) (hb : Below w.heap.size w w') : Msg w' b off M y := h.same (hb.block b h.1)
theorem words_cells (l : List Int) (k : IntKind) : ((l.map (Value.int k)).toArray.all fun v => v.oneCell') = true := by
  refine Array.all_eq_true'.2 fun v hv => ?_
  simp only [List.mem_toArray, List.mem_map] at hv
  obtain ⟨x, _, rfl⟩ := hv
  rfl
theorem w32s_cells (l : List Int) : ((w32s l).toArray.all fun v => v.oneCell') = true := words_cells l _
theorem w64s_cells' (l : List Int) : ((w64s l).toArray.all fun v => v.oneCell') = true := words_cells l _
theorem BK.drop {w0 w : World} {x : Nat × Array Value × TypeId} {bs : List (Nat × Array Value × TypeId)} (F : BK w0 w (x :: bs)) : BK w0 w bs :=
  ⟨F.below, (List.nodup_cons.1 F.nodup).2, fun e he => F.own e (List.mem_cons_of_mem _ he), fun e he => F.row e (List.mem_cons_of_mem _ he)⟩
theorem zero_k256 : ∀ w, (zeroValue 188).run Tryz.prog w = .ok (.agg (w32s (List.replicate 64 0)).toArray) w := fun w => by kernel_rfl
theorem blt_k256 : (Tryz.prog).built 188 (kR256.zipIdx.map fun p => (p.2, Value.int .u32 p.1)) = some (w32s kR256).toArray := by kernel_rfl
set_option maxRecDepth 100000 in
set_option maxHeartbeats 1000000 in
theorem k256_any (w : World) : Calls Tryz.prog 100 #[] w (fun e w' => e = .returned (.agg (w32s kR256).toArray) ∧ Below w.heap.size w w') := by
  have F0 := Lib.hid (BK.start w)
  have T0 : Hid True := trivial
  obtain ⟨K, hK⟩ : ∃ K, K = (w32s kR256).toArray := ⟨_, rfl⟩
  have B0 := Lib.hid blt_k256
  have S0_ : Hid ((Tryz.prog.info? 188).map (·.size) = some K.size) := by show _ = _; rw [hK]; kernel_rfl
  have S1_ : Hid (K.size = 64) := by show _ = _; rw [hK]; rfl
  have S2_ : Hid (K.all (fun v => v.oneCell') = true) := by show _ = _; rw [hK]; exact words_cells _ _
  rw [← hK] at B0 ⊢
  clear hK
  go_enter Tryz.func100, Tryz.ntmps100
  go_wp2_with (first
    | (have hx_ := T0; refine s_alloc F0.out rfl rfl zero_k256 rfl ?_; clear hx_ T0; intro w1 b1 h1 _; have F1 := Lib.hid h1; clear h1 F0; have T1 : Hid True := trivial)
    | (have hx_ := T1; refine s_build rfl (parts := kR256.zipIdx.map fun p => (p.2, .const (.int .u32 p.1))) rfl (ps := kR256.zipIdx.map fun p => (p.2, Value.int .u32 p.1)) rfl B0.out ?_; clear hx_ T1; have T2 : Hid True := trivial)
    | (have hx_ := T2; refine s_store F1.out rfl rfl 0 rfl rfl K rfl (by rw [S1_.out]; rfl) S0_.out S2_.out ?_; clear hx_ T2; intro w3 h1; have F2 := Lib.hid h1; clear h1 F1))
  have hl := ret_row (F2.out.mem (i := 0) rfl) Tryz.underlying188 rfl S0_.out
  exact bodyPost_ret (v := .agg K) (by simp [results, Tryz.results100, asAddr, Act.put, hl]) rfl ⟨rfl, F2.out.below⟩
theorem zero_k512 : ∀ w, (zeroValue 234).run Tryz.prog w = .ok (.agg (w64s (List.replicate 80 0)).toArray) w := fun w => by kernel_rfl
theorem blt_k512 : (Tryz.prog).built 234 (kR512.zipIdx.map fun p => (p.2, Value.int .u64 p.1)) = some (w64s kR512).toArray := by kernel_rfl
set_option maxRecDepth 100000 in
set_option maxHeartbeats 1000000 in
theorem k512_any (w : World) : Calls Tryz.prog 139 #[] w (fun e w' => e = .returned (.agg (w64s kR512).toArray) ∧ Below w.heap.size w w') := by
  have F0 := Lib.hid (BK.start w)
  have T0 : Hid True := trivial
  obtain ⟨K, hK⟩ : ∃ K, K = (w64s kR512).toArray := ⟨_, rfl⟩
  have B0 := Lib.hid blt_k512
  have S0_ : Hid ((Tryz.prog.info? 234).map (·.size) = some K.size) := by show _ = _; rw [hK]; kernel_rfl
  have S1_ : Hid (K.size = 80) := by show _ = _; rw [hK]; rfl
  have S2_ : Hid (K.all (fun v => v.oneCell') = true) := by show _ = _; rw [hK]; exact words_cells _ _
  rw [← hK] at B0 ⊢
  clear hK
  go_enter Tryz.func139, Tryz.ntmps139
  go_wp2_with (first
    | (have hx_ := T0; refine s_alloc F0.out rfl rfl zero_k512 rfl ?_; clear hx_ T0; intro w1 b1 h1 _; have F1 := Lib.hid h1; clear h1 F0; have T1 : Hid True := trivial)
    | (have hx_ := T1; refine s_build rfl (parts := kR512.zipIdx.map fun p => (p.2, .const (.int .u64 p.1))) rfl (ps := kR512.zipIdx.map fun p => (p.2, Value.int .u64 p.1)) rfl B0.out ?_; clear hx_ T1; have T2 : Hid True := trivial)
    | (have hx_ := T2; refine s_store F1.out rfl rfl 0 rfl rfl K rfl (by rw [S1_.out]; rfl) S0_.out S2_.out ?_; clear hx_ T2; intro w3 h1; have F2 := Lib.hid h1; clear h1 F1))
  have hl := ret_row (F2.out.mem (i := 0) rfl) Tryz.underlying234 rfl S0_.out
  exact bodyPost_ret (v := .agg K) (by simp [results, Tryz.results139, asAddr, Act.put, hl]) rfl ⟨rfl, F2.out.below⟩
end Go.Proofs.YtnhdepmalejclaaGreatDoor

namespace Go.Proofs.YtnhdepmalejclaaGreatDoor
open Go.RowKit
theorem tab_at {W : World} {l : List (String × DataW Unit)} {d : DataW Unit} {name : String} {g n : Nat} {k : IntKind} {t e : TypeId} {zs : List Int} (hm : (name, d) ∈ l) (hd : d = Lib.tabData k zs) (hlen : zs.length = n)
    (gk : Tryz.prog.globalNamed name = some g) (gt : (Tryz.prog.globals[g]?).map (·.type) = some t) (hu : Tryz.prog.underlying t = some (.array n e)) (he : Tryz.prog.underlying e = some (.int k)) (c1 : Tryz.prog.cellsOf e = 1) (cn : Tryz.prog.cellsOf t = n)
    (h : laidMet Tryz.prog l W) : g < W.heap.size ∧ ∀ j, j < n → W.cell? ⟨g, j, none⟩ = some (.int k (zs.getD j 0)) := by
  subst hd
  obtain ⟨g', t', cs, fuel, p, hg', ht', hvar, hdd⟩ := Lib.laidMet.reads h hm
  obtain rfl := Option.some.inj (gk.symm.trans hg')
  obtain rfl := Option.some.inj (gt.symm.trans ht')
  have hcs := Lib.cells_of_tab hu he c1 cn hdd
  unfold World.var? at hvar
  rw [gk] at hvar
  simp only [Option.bind_some] at hvar
  have hlt : g < W.heap.size := by
    rcases Nat.lt_or_ge g W.heap.size with h' | h'
    · exact h'
    · rw [Array.getElem?_eq_none h'] at hvar; cases hvar
  refine ⟨hlt, fun j hj => ?_⟩
  cases hh : W.heap[g]? with
  | none => rw [hh] at hvar; cases hvar
  | some o =>
    rw [hh] at hvar
    cases o with
    | cells xs t s =>
      simp only [Option.some.injEq] at hvar
      rw [cell_of_row W g j _ _ _ hh, hvar, ← Array.getElem?_toList, hcs]
      have hj' : j < zs.length := by omega
      simp [hj']
    | _ => cases hvar
def orderZ : List Int := [6346243789798364141, 1503914060200516822, 0, 1152921504606846976]
set_option maxRecDepth 100000 in
theorem nw_of {W : World} {l : List (String × DataW Unit)} (hp : (l.all fun x => x.2.handleName?.isNone) = true) (h1 : ("beacon/sha2.k256", Rows.laid_beacon_sha2_k256) ∈ l) (h2 : ("beacon/sha2.k512", Rows.laid_beacon_sha2_k512) ∈ l)
    (h3 : ("beacon/scalar.order", Rows.laid_beacon_scalar_order) ∈ l) (h : laidMetH Tryz.prog l W) : NW W kR256 kR512 := by
  rw [MakeChecks.laidMetH_plain _ _ _ hp] at h
  have cu32 : Tryz.prog.cellsOf 171 = 1 := by kernel_rfl
  have cu64 : Tryz.prog.cellsOf 24 = 1 := by kernel_rfl
  have a1 := tab_at (zs := kR256) (n := 64) h1 (by kernel_rfl) (by kernel_rfl) (g := 1) (by kernel_rfl) (t := 188) (by kernel_rfl) Tryz.underlying188 Tryz.underlying171 cu32 (by kernel_rfl) h
  have a2 := tab_at (zs := kR512) (n := 80) h2 (by kernel_rfl) (by kernel_rfl) (g := 3) (by kernel_rfl) (t := 234) (by kernel_rfl) Tryz.underlying234 Tryz.underlying24 cu64 (by kernel_rfl) h
  have a3 := tab_at (zs := orderZ) (n := 4) h3 (by kernel_rfl) (by kernel_rfl) (g := 2) (by kernel_rfl) (t := 223) (by kernel_rfl) Tryz.underlying223 Tryz.underlying24 cu64 (by kernel_rfl) h
  exact ⟨⟨a1.1, by decide, a1.2⟩, ⟨a2.1, by decide, a2.2⟩, ⟨a3.1, a3.2 0 (by decide), a3.2 1 (by decide), a3.2 2 (by decide), a3.2 3 (by decide)⟩⟩
end Go.Proofs.YtnhdepmalejclaaGreatDoor

namespace Go.Proofs.YtnhdepmalejclaaGreatDoor
open Go.RowKit Go.Lib
def rsig1 (x : Int) : Int := bits .xor .u32 (bits .xor .u32 (ror32 x 17) (ror32 x 19)) (x / 1024)
def rsig0 (x : Int) : Int := bits .xor .u32 (bits .xor .u32 (ror32 x 7) (ror32 x 18)) (x / 8)
def rwrd (b0 b1 b2 b3 : Int) : Int := bits .or .u32 (bits .or .u32 (bits .or .u32 (b0 * 16777216) (b1 * 65536)) (b2 * 256)) b3
def byR (l : List UInt8) (k : Nat) : Int := ((l.getD k 0).toNat : Int)
def rsched (l : List UInt8) : Nat → List Int
  | 0 => []
  | t + 1 => rsched l t ++ [if t < 16 then rwrd (byR l (4 * t)) (byR l (4 * t + 1)) (byR l (4 * t + 2)) (byR l (4 * t + 3)) else
      ((rsig1 ((rsched l t).getD (t - 2) 0) + (rsched l t).getD (t - 7) 0 + rsig0 ((rsched l t).getD (t - 15) 0)) % 4294967296 + (rsched l t).getD (t - 16) 0) % 4294967296]
theorem rsched_len (l : List UInt8) : ∀ t, (rsched l t).length = t
  | 0 => rfl
  | t + 1 => by rw [rsched, List.length_append, rsched_len l t]; rfl
def rbig1 (x : Int) : Int := bits .xor .u32 (bits .xor .u32 (ror32 x 6) (ror32 x 11)) (ror32 x 25)
def rbig0 (x : Int) : Int := bits .xor .u32 (bits .xor .u32 (ror32 x 2) (ror32 x 13)) (ror32 x 22)
def rt1 (j s1 f g i k w : Int) : Int := ((j + s1 + bits .xor .u32 (bits .and .u32 f g) (bits .and .u32 (bits .xor .u32 (if IntKind.u32.signed = true then -1 else IntKind.u32.max) f) i) + k) % 4294967296 + w) % 4294967296
def rt2 (a s0 c d : Int) : Int := (s0 + bits .xor .u32 (bits .xor .u32 (bits .and .u32 a c) (bits .and .u32 a d)) (bits .and .u32 c d)) % 4294967296
def rrnd (X : R8) (k w : Int) : R8 :=
  ⟨(rt1 X.j (rbig1 X.f) X.f X.g X.i k w + rt2 X.a (rbig0 X.a) X.c X.d) % 4294967296, X.a, X.c, X.d, (X.e + rt1 X.j (rbig1 X.f) X.f X.g X.i k w) % 4294967296, X.f, X.g, X.i⟩
def rrnds (K W : List Int) (R : R8) : Nat → R8
  | 0 => R
  | n + 1 => rrnd (rrnds K W R n) (K.getD n 0) (W.getD n 0)
def rblock (R : R8) (l : List UInt8) : R8 := addR R (rrnds kR256 (rsched l 64) R 64)
def rini : R8 := ⟨1779033703, 3144134277, 1013904242, 2773480762, 1359893119, 2600822924, 528734635, 1541459225⟩
def rrun (m : List UInt8) : Nat → R8
  | 0 => rini
  | n + 1 => rblock (rrun m n) (m.drop (64 * n))
def rout (R : R8) (k : Nat) : UInt8 := UInt8.ofNat (R.l.getD (k / 4) 0 / 2 ^ (24 - 8 * (k % 4)) % 256).toNat
theorem rout_eq (R : R8) (k : Nat) : (R.l.getD (k / 4) 0 / 2 ^ (24 - 8 * (k % 4)) % 256 : Int) = ((rout R k).toNat : Int) := by
  unfold rout
  generalize R.l.getD (k / 4) 0 / 2 ^ (24 - 8 * (k % 4)) = z
  rw [UInt8.toNat_ofNat']
  omega
def rsum256 (l : List UInt8) : List UInt8 := (List.range 32).map (rout (rrun (padR l 64 8) ((padR l 64 8).length / 64)))
theorem zero_h256 : ∀ w, (zeroValue 172).run Tryz.prog w = .ok (.agg (w32s (List.replicate 8 0)).toArray) w := fun w => by kernel_rfl
theorem rsum256_len (l : List UInt8) : (rsum256 l).length = 32 := by simp [rsum256]

theorem byR_lt (l : List UInt8) (k : Nat) : 0 ≤ byR l k ∧ byR l k ≤ 255 := by unfold byR; have := (l.getD k 0).toNat_lt; omega
theorem over_at (zs : Array Value) (L : List Int) (k : Nat) (hk : k < L.length) : (over zs (w32s L))[k]? = some (.int .u32 (L.getD k 0)) := by
  unfold over w32s
  rw [List.getElem?_toArray, List.getElem?_append_left (by rw [List.length_map]; exact hk), List.getElem?_map, List.getElem?_eq_getElem hk]
  simp [List.getD, List.getElem?_eq_getElem hk]
theorem w32s_at (L : List Int) (k : Nat) (hk : k < L.length) : (w32s L).toArray[k]? = some (.int .u32 (L.getD k 0)) := by
  unfold w32s
  rw [List.getElem?_toArray, List.getElem?_map, List.getElem?_eq_getElem hk]
  simp [List.getD, List.getElem?_eq_getElem hk]
theorem padR_length (l : List UInt8) (bk ln : Nat) : (padR l bk ln).length = l.length + 1 + padN_ l.length bk ln + ln := by
  unfold padR
  simp only [List.length_append, List.length_replicate, List.length_singleton]
  simp [lenR]
theorem padR_len64 (l : List UInt8) (h : l.length ≤ 100000) : (padR l 64 8).length % 64 = 0 ∧ 0 < (padR l 64 8).length ∧ (padR l 64 8).length ≤ 200000 := by
  rw [padR_length]
  have h1 := (pad_more (n := l.length) (bk := 64) (ln := 8) (k := padN_ l.length 64 8) (by decide) (Nat.le_refl _)).2 rfl
  have h2 : padN_ l.length 64 8 < 64 := Nat.mod_lt _ (by decide)
  refine ⟨by rw [← h1], by omega, by omega⟩
section
variable {ops : Array Oper} {rest : List Oper} {o : Oper} {a : Act} {w0 w : World} {Q : Exit → Act → World → Prop} {bs : List (Nat × Array Value × TypeId)}
theorem s_load_R {R : R8} (hg : o.guard = none) {x : Operand} (ho : o.op = .load 172 x) {b : Nat} (hx : a.eval x = .pointer (some ⟨b, 0, none⟩)) (F : BK w0 w bs) (i : Nat) {t : TypeId} (hi : bs[i]? = some (b, (w32s R.l).toArray, t)) (h : wpList Tryz.prog ops Q rest (a.put o.dst (.agg (w32s R.l).toArray)) w) : wpList Tryz.prog ops Q (o :: rest) a w :=
  wpList_load_arr hg _ _ ho b 0 hx (w32s R.l).toArray _ (F.range i hi) Tryz.underlying172 rfl (by kernel_rfl) h
end
end Go.Proofs.YtnhdepmalejclaaGreatDoor
