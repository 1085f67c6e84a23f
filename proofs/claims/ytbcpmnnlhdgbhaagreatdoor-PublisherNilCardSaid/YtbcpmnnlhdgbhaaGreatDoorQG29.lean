/- The texts DN2 RS3 NDoor SS1 D1 D2 D3 D4 D5 of this work, merged by wip/merge.py. No conditions. -/
import Derived.Test.YtbcpmnnlhdgbhaaGreatDoorQG28
import Derived.Test.YtbcpmnnlhdgbhaaGreatDoorQG24
import Derived.Test.YtbcpmnnlhdgbhaaGreatDoorQG05
import Derived.Test.YtbcpmnnlhdgbhaaGreatDoorQG07
import Derived.Test.YtbcpmnnlhdgbhaaGreatDoorRows
import Derived.Test.YtbcpmnnlhdgbhaaGreatDoorQG21
import Derived.Lib.LaidU8
import Derived.Lib.LaidTab
import Derived.SevenTiedAt
import Derived.Test.YtbcpmnnlhdgbhaaGreatDoorQG00
import Derived.Test.YtbcpmnnlhdgbhaaGreatDoorQG04
import Derived.Deep.DeepMust
import Derived.Deep.LoopGhost
import Derived.Deep.MidRow
import Derived.BigQuiet
namespace Go.Proofs.YtbcpmnnlhdgbhaaGreatDoor
open Go.RowKit Go.Lib
def dirCs (k : KeyV) (S : Value) (n m : Nat) : Array Value := (k.cs.toList ++ [Value.slice none 0 0, S, .pointer (some ⟨n, 0, none⟩), .pointer none, .slice none 0 0, .int .i64 0, .map (some m)]).toArray
theorem dirCs_size {k : KeyV} (h : k.ok) (S : Value) (n m : Nat) : (dirCs k S n m).size = 72 := by have := KeyV.size h; simp [dirCs, this]
def dirPl : List (Nat × Nat) := [(0, 65), (65, 1), (66, 1), (67, 1), (68, 1), (69, 1), (70, 1), (71, 1)]
set_option maxRecDepth 100000 in
theorem built_dir0 (ps : List (Nat × Value)) : (Tryz.prog).built 137 ps = Instr.fill (dirPl.toArray[·]?) (keyZ.cs.toList ++ [Value.slice none 0 0, .slice none 0 0, .pointer none, .pointer none, .slice none 0 0, .int .i64 0, .map none]).toArray ps := by kernel_rfl
theorem built_dir {k : KeyV} {n m : Nat} (h : k.ok) : (Tryz.prog).built 137 [(0, .agg k.cs), (3, .pointer (some ⟨n, 0, none⟩)), (7, .map (some m))] = some (dirCs k (.slice none 0 0) n m) := by
  rw [built_dir0]
  have lz : keyZ.cs.toList.length = 65 := by rw [Array.length_toList]; exact KeyV.size ⟨rfl, rfl⟩
  have lk : k.cs.toList.length = 65 := by rw [Array.length_toList]; exact KeyV.size h
  generalize keyZ.cs.toList = z at lz
  refine Eq.trans (Bd.fill_seg [] z k.cs.toList [Value.slice none 0 0, .slice none 0 0, .pointer none, .pointer none, .slice none 0 0, .int .i64 0, .map none] rfl (by rw [Array.toArray_toList]; rfl) (by rw [lk]; rfl) (by rw [lz, lk])) ?_
  refine Eq.trans (Bd.fill_seg (k.cs.toList ++ [Value.slice none 0 0, .slice none 0 0]) [Value.pointer none] [Value.pointer (some ⟨n, 0, none⟩)] [Value.pointer none, .slice none 0 0, .int .i64 0, Value.map none] (by simp) rfl (by rw [List.length_append, lk]; rfl) rfl) ?_
  refine Eq.trans (Bd.fill_seg (k.cs.toList ++ [Value.slice none 0 0, .slice none 0 0, .pointer (some ⟨n, 0, none⟩), .pointer none, .slice none 0 0, .int .i64 0]) [Value.map none] [Value.map (some m)] [] (by simp) rfl (by rw [List.length_append, lk]; rfl) rfl) ?_
  rw [Instr.fill]
  congr 1
  simp [dirCs]
theorem put_steps {k : KeyV} (h : k.ok) (S S' : Value) (n m : Nat) : (dirCs k S n m).setIfInBounds 66 S' = dirCs k S' n m := by
  have lk : k.cs.toList.length = 65 := by rw [Array.length_toList]; exact KeyV.size h
  unfold dirCs
  rw [List.setIfInBounds_toArray]
  congr 1
  rw [List.set_append_right _ _ (by omega), lk]
  rfl
/-- A root that has but its tree's hash. -/
def hashRoot (l : List UInt8) : RootV := ⟨0, 0, 0, List.replicate 32 0, l, List.replicate 32 0, List.replicate 64 0⟩
theorem hashRoot_ok {l : List UInt8} (h : l.length = 32) : (hashRoot l).ok := ⟨(by show 0 < 18446744073709551616; decide), (by show 0 < 18446744073709551616; decide), (by show 0 < 18446744073709551616; decide), List.length_replicate .., h, List.length_replicate .., List.length_replicate ..⟩
def rootPl2 : List (Nat × Nat) := [(0, 1), (1, 1), (2, 1), (3, 32), (35, 32), (67, 32), (99, 64)]
set_option maxRecDepth 100000 in
theorem built_hash0 (ps : List (Nat × Value)) : (Tryz.prog).built 34 ps = Instr.fill (rootPl2.toArray[·]?) rootZ0.cs ps := by kernel_rfl
theorem built_hash {l : List UInt8} (hl : l.length = 32) : (Tryz.prog).built 34 [(4, .agg (bvs l).toArray)] = some (hashRoot l).cs := by
  rw [built_hash0]
  obtain ⟨z32, hz⟩ : ∃ z, z = bvs (List.replicate 32 0) := ⟨_, rfl⟩
  obtain ⟨z64, hz6⟩ : ∃ z, z = bvs (List.replicate 64 0) := ⟨_, rfl⟩
  have lz : z32.length = 32 := by rw [hz, bvs_length, List.length_replicate]
  have e : rootZ0.cs = (([Value.int .u64 0, .int .u64 0, .int .u64 0] ++ z32) ++ (z32 ++ (z32 ++ z64))).toArray := by rw [hz, hz6]; simp [rootZ0, RootV.cs, RootV.vs]
  rw [e]
  refine Eq.trans (Bd.fill_seg ([Value.int .u64 0, .int .u64 0, .int .u64 0] ++ z32) z32 (bvs l) (z32 ++ z64) rfl rfl (by rw [List.length_append, bvs_length, lz, hl]; rfl) (by rw [lz, bvs_length, hl])) ?_
  rw [Instr.fill]
  congr 1
  rw [hz, hz6]
  simp [hashRoot, RootV.cs, RootV.vs]
/-- A step that has but a root. -/
def stepCs (r : RootV) : Array Value := (r.cs.toList ++ [Value.slice none 0 0, .slice none 0 0, .slice none 0 0]).toArray
theorem stepCs_size {r : RootV} (h : r.ok) : (stepCs r).size = 166 := by have := RootV.size h; simp [stepCs, this]
def stepPl : List (Nat × Nat) := [(0, 163), (163, 1), (164, 1), (165, 1)]
set_option maxRecDepth 100000 in
theorem built_step0 (ps : List (Nat × Value)) : (Tryz.prog).built 60 ps = Instr.fill (stepPl.toArray[·]?) (stepCs rootZ0) ps := by kernel_rfl
theorem built_step {r : RootV} (h : r.ok) : (Tryz.prog).built 60 [(0, .agg r.cs)] = some (stepCs r) := by
  rw [built_step0]
  have hz0 : rootZ0.ok := ⟨by decide, by decide, by decide, by decide, by decide, by decide, by decide⟩
  have lz : rootZ0.cs.toList.length = 163 := by rw [Array.length_toList]; exact RootV.size hz0
  have lk : r.cs.toList.length = 163 := by rw [Array.length_toList]; exact RootV.size h
  unfold stepCs
  generalize rootZ0.cs.toList = z at lz
  refine Eq.trans (Bd.fill_seg [] z r.cs.toList [Value.slice none 0 0, .slice none 0 0, .slice none 0 0] rfl (by rw [Array.toArray_toList]; rfl) (by rw [lk]; rfl) (by rw [lz, lk])) ?_
  rw [Instr.fill]
  rfl
/-- A directory of the epoch 0. -/
structure Dir0 (w : World) (B g gs gn gl gm : Nat) (k : KeyV) (r : RootV) (s v : List UInt8) : Prop where
  g_ : B ≤ g
  gs_ : B ≤ gs
  gm_ : B ≤ gm
  row : w.heap[g]? = some (.cells (dirCs k (.slice (some ⟨gs, 0, none⟩) 1 1) gn gm) 137 (0, 0))
  steps : w.heap[gs]? = some (.cells (stepCs r) 60 (0, 0))
  now : Gen0 w B gn gl s v
  accounts : w.heap[gm]? = some (.map #[] 0)
theorem Dir0.below {w w' : World} {B g gs gn gl gm : Nat} {k : KeyV} {r : RootV} {s v : List UInt8} (h : Dir0 w B g gs gn gl gm k r s v) (hb : Below w.heap.size w w') : Dir0 w' B g gs gn gl gm k r s v :=
  ⟨h.g_, h.gs_, h.gm_, (hb.block _ (lt_of_some h.row)).trans h.row, (hb.block _ (lt_of_some h.steps)).trans h.steps, h.now.below hb, (hb.block _ (lt_of_some h.accounts)).trans h.accounts⟩
def newRoot (Kt Kq : List Int) (secret : List UInt8) : RootV := signRootF Kt Kq secret (hashRoot (root0F Kt))
theorem newRoot_ok (Kt Kq : List Int) (secret : List UInt8) : (newRoot Kt Kq secret).ok := by
  unfold newRoot
  have h : (root0F Kt).length = 32 := by unfold root0F; exact sumF_len _ _
  generalize root0F Kt = l at h
  exact signRootF_ok _ _ _ (hashRoot_ok h)
def DirPost (Kt Kq : List Int) (secret : List UInt8) (w : World) (e : Ending) (w' : World) : Prop := ∃ g gs gn gl gm, e = .returned (.pointer (some ⟨g, 0, none⟩)) ∧ Dir0 w' w.heap.size g gs gn gl gm (keysF Kt Kq secret 0) (newRoot Kt Kq secret) secret (seedF Kt [118, 114, 102] secret) ∧ Below w.heap.size w w'
/-- A generation that was begun. -/
def Tell.gen (B : Nat) (s v : List UInt8) : Tell := ⟨fun u => ∃ g, u = .pointer (some ⟨g, 0, none⟩), fun _ u w => ∀ g, u = .pointer (some ⟨g, 0, none⟩) → ∃ gl, Gen0 w B g gl s v, fun _ => none⟩
theorem Tell.gen_good (B : Nat) (s v : List UInt8) : (Tell.gen B s v).Good := ⟨⟨_, 0, rfl⟩, fun _ _ _ _ h hb g e => by obtain ⟨gl, h1⟩ := h g e; exact ⟨gl, h1.below hb⟩⟩
set_option maxRecDepth 100000 in
theorem rg_begin {l : List Oper} {w0 : World} {K : List (Nat × (World → Prop)) → List (Option Nat) → Act → Prop} {r : List (Oper × Option Tell)} {k : Nat} {fs : List (Nat × (World → Prop))} {bs : List (Option Nat)} {a : Act} {o : Oper} {B : Nat} (hB : B ≤ w0.heap.size) (Kt : List Int) (secret : List UInt8) (xs : List Operand) {ts : Array TypeId} (ho : o.op = .call { callee := .value (.func 72), args := xs.toArray, argTypes := ts }) {vs : List Value} (hx : xs.map a.eval = vs)
    (hc : ∀ w, Below w0.heap.size w0 w → Calls Tryz.prog 72 vs.toArray w (BeginPost Kt secret w))
    (hK : ∀ g, rgWalk Tryz.prog l w0 K r (k + 1) (fs ++ [(k, fun w => ∃ gl, Gen0 w B g gl secret (seedF Kt [118, 114, 102] secret))]) (bs ++ [none]) (a.put o.dst (.pointer (some ⟨g, 0, none⟩)))) : rgWalk Tryz.prog l w0 K ((o, some (Tell.gen B secret (seedF Kt [118, 114, 102] secret))) :: r) k fs bs a := by
  refine rg_call_t _ 72 xs ho hx (fun _ _ => rfl) (fun w hb ht => (hc w hb).mono fun e w' h => ?_) (fun v hv => ?_)
  · obtain ⟨g, gl, e1, hg, hb'⟩ := h
    have := hb.size
    exact ⟨_, e1, ⟨g, rfl⟩, fun g' e2 => (by cases e2; exact ⟨gl, by have := hg.g_; omega, by have := hg.gl_; omega, hg.row, hg.labels⟩), hb', fun b hb => by cases hb⟩
  · obtain ⟨g, rfl⟩ := hv
    have h1 := hK g
    have e : (fun w : World => ∃ gl, Gen0 w B g gl secret (seedF Kt [118, 114, 102] secret)) = (Tell.gen B secret (seedF Kt [118, 114, 102] secret)).holds (argsOf l.toArray o a) (.pointer (some ⟨g, 0, none⟩)) := by
      funext w
      apply propext
      refine ⟨fun h g' e => ?_, fun h => h g rfl⟩
      cases e
      exact h
    rw [e] at h1
    exact h1
section
variable {ops : Array Oper} {rest : List Oper} {o : Oper} {a : Act} {w0 w : World} {Q : Exit → Act → World → Prop} {bs : List (Nat × Array Value × TypeId)}
/-- A new slice of one struct. -/
theorem s_slice1 (F : BK w0 w bs) {x : Operand} {cs : Array Value} {t e : TypeId} {s : Nat} {ie : TypeInfo} {z : Value} (hg : o.guard = none) (ho : o.op = .buildSlice t 1 #[(0, x)])
    (hx : a.eval x = .agg cs) (hl : cs.size = s) (hu : Tryz.prog.underlying t = some (.slice e)) (hie : Tryz.prog.info? e = some ie) (hz : ie.zero = some z) (hsz : ie.size = s) (hs : 0 < s ∧ s ≤ 1000)
    (h : ∀ w' b, BK w0 w' ((b, cs, e) :: bs) → Below w.heap.size w w' → wpList Tryz.prog ops Q rest (a.put o.dst (.slice (some ⟨b, 0, none⟩) 1 1)) w') : wpList Tryz.prog ops Q (o :: rest) a w :=
  slice1 hg ho hx hl hu hie hz hsz hs (h _ _ (F.alloc rfl cs e) ((Below.refl _ _).alloc (Nat.le_refl _) _))
/-- One cell is written; all other blocks stay. -/
theorem s_setSteps (F : BK w0 w bs) (hg : o.guard = none) {x y : Operand} (ho : o.op = .store 132 x y) (i : Nat) {b : Nat} {c : Array Value} {t : TypeId} (hi : bs[i]? = some (b, c, t)) (k : Nat) (hk : k < c.size) (hx : a.eval x = .pointer (some ⟨b, k, none⟩))
    {A : Option Addr} {n m : Nat} (hy : a.eval y = .slice A n m) (h : ∀ w', BK w0 w' (bs.set i (b, c.setIfInBounds k (.slice A n m), t)) → (∀ j, j ≠ b → w'.heap[j]? = w.heap[j]?) → wpList Tryz.prog ops Q rest (a.put o.dst undef) w') : wpList Tryz.prog ops Q (o :: rest) a w := by
  refine wpList_plain hg fun K hK => ?_
  have h2 := F.cell i hi k
  rw [Array.getElem?_eq_getElem hk] at h2
  have h3 := F.free i hi k
  have h4 := hK _ _ (h _ (F.put1 i hi k _) (fun _ hj => Below.heap_setCell _ _ _ _ hj))
  unfold Oper.wp execOp
  simp only [ho, hx, hy]
  simp [go_sem, h2, h3]
  exact h4
end
section
variable {ops : Array Oper} {rest : List Oper} {o : Oper} {a : Act} {w : World} {Q : Exit → Act → World → Prop}
theorem s_build (hg : o.guard = none) {t : TypeId} {parts : List (Nat × Operand)} (ho : o.op = .build t parts.toArray) {ps : List (Nat × Value)} (hx : parts.map (fun p => (p.1, a.eval p.2)) = ps) {cells : Array Value} (hb : (Tryz.prog).built t ps = some cells)
    (h : wpList Tryz.prog ops Q rest (a.put o.dst (.agg cells)) w) : wpList Tryz.prog ops Q (o :: rest) a w := by
  refine wpList_plain hg fun _ hK => ?_
  have e : (parts.toArray.map fun x => match x with | (i, x) => (i, a.eval x)) = ps.toArray := by rw [List.map_toArray, ← hx]
  unfold Oper.wp execOp
  simp only [ho, e, run_build w t ps.toArray cells (by simpa using hb), Sem.run_bind, Sem.run_pure, Result.andThen_ok]
  exact hK _ _ h
end
theorem stepInfo : ∃ ie z, Tryz.prog.info? 60 = some ie ∧ ie.zero = some z ∧ ie.size = 166 := by
  have h : (Tryz.prog.info? 60).map (fun i => (i.zero.isSome, i.size)) = some (true, 166) := by kernel_rfl
  cases hi : Tryz.prog.info? 60 with
  | none => rw [hi] at h; cases h
  | some i =>
    rw [hi] at h
    simp only [Option.map_some, Option.some.injEq, Prod.mk.injEq] at h
    obtain ⟨z, hz⟩ := Option.isSome_iff_exists.1 h.1
    exact ⟨i, z, rfl, hz, h.2⟩
end Go.Proofs.YtbcpmnnlhdgbhaaGreatDoor

namespace Go.Proofs.YtbcpmnnlhdgbhaaGreatDoor
open Go.RowKit Go.Lib
def kR256 : List Int := [1116352408, 1899447441, 3049323471, 3921009573, 961987163, 1508970993, 2453635748, 2870763221, 3624381080, 310598401, 607225278, 1426881987, 1925078388, 2162078206, 2614888103, 3248222580, 3835390401, 4022224774, 264347078, 604807628, 770255983, 1249150122, 1555081692, 1996064986, 2554220882, 2821834349, 2952996808, 3210313671, 3336571891, 3584528711, 113926993, 338241895, 666307205, 773529912, 1294757372, 1396182291, 1695183700, 1986661051, 2177026350, 2456956037, 2730485921, 2820302411, 3259730800, 3345764771, 3516065817, 3600352804, 4094571909, 275423344, 430227734, 506948616, 659060556, 883997877, 958139571, 1322822218, 1537002063, 1747873779, 1955562222, 2024104815, 2227730452, 2361852424, 2428436474, 2756734187, 3204031479, 3329325298]
def kR512 : List Int := [4794697086780616226, 8158064640168781261, 13096744586834688815, 16840607885511220156, 4131703408338449720, 6480981068601479193, 10538285296894168987, 12329834152419229976, 15566598209576043074, 1334009975649890238, 2608012711638119052, 6128411473006802146, 8268148722764581231, 9286055187155687089, 11230858885718282805, 13951009754708518548, 16472876342353939154, 17275323862435702243, 1135362057144423861, 2597628984639134821, 3308224258029322869, 5365058923640841347, 6679025012923562964, 8573033837759648693, 10970295158949994411, 12119686244451234320, 12683024718118986047, 13788192230050041572, 14330467153632333762, 15395433587784984357, 489312712824947311, 1452737877330783856, 2861767655752347644, 3322285676063803686, 5560940570517711597, 5996557281743188959, 7280758554555802590, 8532644243296465576, 9350256976987008742, 10552545826968843579, 11727347734174303076, 12113106623233404929, 14000437183269869457, 14369950271660146224, 15101387698204529176, 15463397548674623760, 17586052441742319658, 1182934255886127544, 1847814050463011016, 2177327727835720531, 2830643537854262169, 3796741975233480872, 4115178125766777443, 5681478168544905931, 6601373596472566643, 7507060721942968483, 8399075790359081724, 8693463985226723168, 9568029438360202098, 10144078919501101548, 10430055236837252648, 11840083180663258601, 13761210420658862357, 14299343276471374635, 14566680578165727644, 15097957966210449927, 16922976911328602910, 17689382322260857208, 500013540394364858, 748580250866718886, 1242879168328830382, 1977374033974150939, 2944078676154940804, 3659926193048069267, 4368137639120453308, 4836135668995329356, 5532061633213252278, 6448918945643986474, 6902733635092675308, 7801388544844847127]
section
variable {ops : Array Oper} {rest : List Oper} {o : Oper} {a : Act} {w0 w : World} {Q : Exit → Act → World → Prop} {bs : List (Nat × Array Value × TypeId)}
end
/-- Bytes that lie in a block. -/
def Msg (w : World) (b off M : Nat) (y : List UInt8) : Prop := b < w.heap.size ∧ ∀ j, j < M → w.cell? ⟨b, off + j, none⟩ = some (.int .u8 ((y.getD j 0).toNat : Int))
theorem Msg.same {w w' : World} {b off M : Nat} {y : List UInt8} (h : Msg w b off M y) (e : w'.heap[b]? = w.heap[b]?) : Msg w' b off M y := by
  have hs : b < w'.heap.size := by
    rw [Array.getElem?_eq_getElem h.1] at e
    exact (Array.getElem?_eq_some_iff.1 e).1
  refine ⟨hs, fun j hj => ?_⟩
  have h1 := h.2 j hj
  unfold World.cell? at h1 ⊢
  simp only at h1 ⊢
  rw [e]
  exact h1
theorem Msg.bel {w w' : World} {b off M : Nat} {y : List UInt8} (h : Msg w b off M y) (hb : Below w.heap.size w w') : Msg w' b off M y := h.same (hb.block b h.1)
theorem BK.drop {w0 w : World} {x : Nat × Array Value × TypeId} {bs : List (Nat × Array Value × TypeId)} (F : BK w0 w (x :: bs)) : BK w0 w bs :=
  ⟨F.below, (List.nodup_cons.1 F.nodup).2, fun e he => F.own e (List.mem_cons_of_mem _ he), fun e he => F.row e (List.mem_cons_of_mem _ he)⟩
end Go.Proofs.YtbcpmnnlhdgbhaaGreatDoor

namespace Go.Proofs.YtbcpmnnlhdgbhaaGreatDoor
open Go.RowKit
theorem tab_at {W : World} {l : List (String × DataW Unit)} {d : DataW Unit} {name : String} {g n : Nat} {k : IntKind} {t e : TypeId} {zs : List Int} (hm : (name, d) ∈ l) (hd : d = Lib.tabData k zs) (hlen : zs.length = n)
    (gk : Tryz.prog.globalNamed name = some g) (gt : (Tryz.prog.globals[g]?).map (·.type) = some t) (hu : Tryz.prog.underlying t = some (.array n e)) (he : Tryz.prog.underlying e = some (.int k)) (c1 : Tryz.prog.cellsOf e = 1) (cn : Tryz.prog.cellsOf t = n)
    (h : laidMet Tryz.prog l W) : g < W.heap.size ∧ ∀ j, j < n → W.cell? ⟨g, j, none⟩ = some (.int k (zs.getD j 0)) := by
  subst hd
  obtain ⟨g', t', cs, fuel, p, hg', ht', hvar, hdd⟩ := Lib.laidMet.reads h hm
  obtain rfl := Option.some.inj (gk.symm.trans hg')
  obtain rfl := Option.some.inj (gt.symm.trans ht')
  have hcs := Lib.cells_of_tab hu he c1 cn hdd
  unfold World.var? at hvar
  rw [gk] at hvar
  simp only [Option.bind_some] at hvar
  have hlt : g < W.heap.size := by
    rcases Nat.lt_or_ge g W.heap.size with h' | h'
    · exact h'
    · rw [Array.getElem?_eq_none h'] at hvar; cases hvar
  refine ⟨hlt, fun j hj => ?_⟩
  cases hh : W.heap[g]? with
  | none => rw [hh] at hvar; cases hvar
  | some o =>
    rw [hh] at hvar
    cases o with
    | cells xs t s =>
      simp only [Option.some.injEq] at hvar
      rw [cell_of_row W g j _ _ _ hh, hvar, ← Array.getElem?_toList, hcs]
      have hj' : j < zs.length := by omega
      simp [hj']
    | _ => cases hvar
def orderZ : List Int := [6346243789798364141, 1503914060200516822, 0, 1152921504606846976]
set_option maxRecDepth 100000 in
theorem nw_of {W : World} {l : List (String × DataW Unit)} (hp : (l.all fun x => x.2.handleName?.isNone) = true) (h1 : ("beacon/sha2.k256", Rows.laid_beacon_sha2_k256) ∈ l) (h2 : ("beacon/sha2.k512", Rows.laid_beacon_sha2_k512) ∈ l)
    (h3 : ("beacon/scalar.order", Rows.laid_beacon_scalar_order) ∈ l) (h : laidMetH Tryz.prog l W) : NW W kR256 kR512 := by
  rw [MakeChecks.laidMetH_plain _ _ _ hp] at h
  have cu32 : Tryz.prog.cellsOf 140 = 1 := by kernel_rfl
  have cu64 : Tryz.prog.cellsOf 30 = 1 := by kernel_rfl
  have a1 := tab_at (zs := kR256) (n := 64) h1 (by kernel_rfl) (by kernel_rfl) (g := 1) (by kernel_rfl) (t := 271) (by kernel_rfl) Tryz.underlying271 Tryz.underlying140 cu32 (by kernel_rfl) h
  have a2 := tab_at (zs := kR512) (n := 80) h2 (by kernel_rfl) (by kernel_rfl) (g := 3) (by kernel_rfl) (t := 363) (by kernel_rfl) Tryz.underlying363 Tryz.underlying30 cu64 (by kernel_rfl) h
  have a3 := tab_at (zs := orderZ) (n := 4) h3 (by kernel_rfl) (by kernel_rfl) (g := 2) (by kernel_rfl) (t := 294) (by kernel_rfl) Tryz.underlying294 Tryz.underlying30 cu64 (by kernel_rfl) h
  exact ⟨⟨a1.1, by decide, a1.2⟩, ⟨a2.1, by decide, a2.2⟩, ⟨a3.1, a3.2 0 (by decide), a3.2 1 (by decide), a3.2 2 (by decide), a3.2 3 (by decide)⟩⟩
end Go.Proofs.YtbcpmnnlhdgbhaaGreatDoor

namespace Go.Proofs.YtbcpmnnlhdgbhaaGreatDoor
open Go.RowKit Go.Lib
set_option maxRecDepth 100000 in
set_option maxHeartbeats 1000000 in
theorem insertS0 (v : Value) (w : World) : Calls Tryz.prog 186 #[v, .int .i64 0, .int .i64 0] w (fun e w' => e = .returned (.tuple #[]) ∧ w' = w) := by
  go_enter Tryz.func186, Tryz.ntmps186
  go_wp2
  go_loopw [6] (fun iv wr => iv = .int .i64 1 ∧ Hid (wr = w)) (fun _ _ => 0)
  case atStart => exact ⟨rfl, rfl⟩
  case round =>
    obtain ⟨rfl, hF⟩ := hrel
    go_wp2
    first
      | go_end0
      | (refine bodyPost_ret (results_none rfl _ _ _) rfl ?_)
    exact ⟨rfl, hF.out⟩
set_option maxRecDepth 100000 in
set_option maxHeartbeats 1000000 in
theorem pdqS0 (v : Value) (w : World) : Calls Tryz.prog 149 #[v, .int .i64 0, .int .i64 0, .int .i64 0] w (fun e w' => e = .returned (.tuple #[]) ∧ w' = w) := by
  go_enter Tryz.func149, Tryz.ntmps149
  go_wp2
  go_loopw [1, 2] (fun v1 v2 wr => v1 = .int .i64 0 ∧ v2 = .int .i64 0 ∧ Hid (wr = w)) (fun _ _ _ => 0)
  case atStart => exact ⟨rfl, rfl, rfl⟩
  case round =>
    obtain ⟨rfl, rfl, F2⟩ := hrel
    go_wp2_with (go_at_call 186; refine (insertS0 _ _).mono ?_; rintro e w3 ⟨rfl, hw_⟩; have hw_ := hw_.symm; subst hw_)
    first
      | go_end0
      | (refine bodyPost_ret (results_none rfl _ _ _) rfl ?_)
    exact ⟨rfl, F2.out⟩
set_option maxRecDepth 100000 in
set_option maxHeartbeats 1000000 in
theorem slicesSort0 (A : Option Addr) (c : Nat) (w : World) : Calls Tryz.prog 118 #[.slice A 0 c] w (fun e w' => e = .returned (.tuple #[]) ∧ w' = w) := by
  go_enter Tryz.func118, Tryz.ntmps118
  go_wp2_with (first
    | (go_at_call 130; refine (bitsLen0 _).mono ?_; rintro e w4 ⟨rfl, hw_⟩; have hw_ := hw_.symm; subst hw_)
    | (go_at_call 149; refine (pdqS0 _ _).mono ?_; rintro e w5 ⟨rfl, hw_⟩; have hw_ := hw_.symm; subst hw_))
  first
    | go_end0
    | (refine bodyPost_ret (results_none rfl _ _ _) rfl ?_)
  exact ⟨rfl, rfl⟩
set_option maxRecDepth 100000 in
set_option maxHeartbeats 1000000 in
theorem strings0 (A : Option Addr) (c : Nat) (w : World) : Calls Tryz.prog 82 #[.slice A 0 c] w (fun e w' => e = .returned (.tuple #[]) ∧ w' = w) := by
  go_enter Tryz.func82, Tryz.ntmps82
  go_wp2_with (go_at_call 118; refine (slicesSort0 A c _).mono ?_; rintro e w5 ⟨rfl, hw_⟩; have hw_ := hw_.symm; subst hw_)
  first
    | go_end0
    | (refine bodyPost_ret (results_none rfl _ _ _) rfl ?_)
  exact ⟨rfl, rfl⟩
end Go.Proofs.YtbcpmnnlhdgbhaaGreatDoor

namespace Go.Proofs.YtbcpmnnlhdgbhaaGreatDoor
open Go.RowKit

end Go.Proofs.YtbcpmnnlhdgbhaaGreatDoor

namespace Go.Proofs.YtbcpmnnlhdgbhaaGreatDoor
open Go.RowKit

/-- What a disk.Disk holds. -/
structure DS where
  secs : List (List UInt8)
  pend : List (Nat × List UInt8)
  full : Bool
  down : Bool
  lit : Bool
  fuse : Int
def cellsS (l : List (List UInt8)) : List Value := l.flatMap bvs
def cellsP (l : List (Nat × List UInt8)) : List Value := l.flatMap fun p => .int .i64 (p.1 : Int) :: bvs p.2
structure DS.ok (s : DS) : Prop where
  secs : ∀ l ∈ s.secs, l.length = 64
  pend : ∀ p ∈ s.pend, p.1 < s.secs.length ∧ p.2.length = 64
  max : s.secs.length ≤ 65536
/-- The disk at block g; its blocks are 'own'. -/
structure Dsk (w : World) (base : Nat) (own : Nat → Prop) (g : Nat) (s : DS) (S P : Value) : Prop where
  ok : s.ok
  blk : w.heap[g]? = some (.cells #[S, P, .bool s.full, .bool s.down, .bool s.lit, .int .i64 s.fuse] 120 (0, 0))
  rowS : w.ownsRow base 32 64 S s.secs.length (cellsS s.secs)
  rowP : w.ownsRow base 224 65 P s.pend.length (cellsP s.pend)
  ownG : own g
  ownS : ∀ k, S.ownBlock = some k → own k
  ownP : ∀ k, P.ownBlock = some k → own k
  bnd : ∀ k, own k → base ≤ k ∧ k < w.heap.size
  gS : S.ownBlock ≠ some g
  gP : P.ownBlock ≠ some g
  sP : S.ownBlock = none ∨ S.ownBlock ≠ P.ownBlock
/-- Only blocks of 'own' are turned. -/
structure Turns (own : Nat → Prop) (w w' : World) : Prop where
  os : w'.os = w.os
  tape : w'.tape = w.tape
  output : w'.output = w.output
  size : w.heap.size ≤ w'.heap.size
  block : ∀ k, k < w.heap.size → ¬ own k → w'.heap[k]? = w.heap[k]?
variable {w w' : World} {base g : Nat} {own : Nat → Prop} {s : DS} {S P : Value}
theorem Turns.refl (own : Nat → Prop) (w : World) : Turns own w w := ⟨rfl, rfl, rfl, Nat.le_refl _, fun _ _ _ => rfl⟩
theorem Turns.drewN {own : Nat → Prop} {a w : World} (h : Turns own a w) (n : Nat) : Turns own a (w.drewN n) := ⟨h.os, h.tape, h.output, h.size, h.block⟩
theorem Turns.of_below {own : Nat → Prop} {w w' : World} (h : Below w.heap.size w w') : Turns own w w' := ⟨h.os, h.tape, h.output, h.size, fun k hk _ => h.block k hk⟩
theorem Dsk.field (h : Dsk w base own g s S P) {i : Nat} {v : Value} (hv : (#[S, P, .bool s.full, .bool s.down, .bool s.lit, .int .i64 s.fuse] : Array Value)[i]? = some v) : w.cell? ⟨g, i, none⟩ = some v := by
  rw [cell_of_row _ g i _ _ _ h.blk]; exact hv
theorem Dsk.unfrozen (h : Dsk w base own g s S P) (i : Nat) : w.frozen? ⟨g, i, none⟩ = false := by
  simp [World.frozen?, h.blk]
theorem Dsk.lt (h : Dsk w base own g s S P) : g < w.heap.size := (h.bnd g h.ownG).2
/-- A field of one of the four plain ones is written. -/
theorem Dsk.put (h : Dsk w base own g s S P) {i : Nat} {v : Value} {s' : DS} (h1 : s'.secs = s.secs) (h2 : s'.pend = s.pend)
    (hv : (#[S, P, .bool s.full, .bool s.down, .bool s.lit, .int .i64 s.fuse] : Array Value).setIfInBounds i v = #[S, P, .bool s'.full, .bool s'.down, .bool s'.lit, .int .i64 s'.fuse]) :
    Dsk (w.setCell ⟨g, i, none⟩ v) base own g s' S P ∧ Turns own w (w.setCell ⟨g, i, none⟩ v) := by
  have hg : w.grownBy (w.setCell ⟨g, i, none⟩ v) (some g) := ⟨rfl, rfl, rfl, by simp [World.setCell], fun k _ hk => Below.heap_setCell _ _ _ _ (fun e => hk (by rw [e]))⟩
  have hsz : (w.setCell ⟨g, i, none⟩ v).heap.size = w.heap.size := by simp [World.setCell]
  refine ⟨⟨⟨h1 ▸ h.ok.secs, by rw [h1, h2]; exact h.ok.pend, h1 ▸ h.ok.max⟩, ?_, ?_, ?_, h.ownG, h.ownS, h.ownP, fun k hk => by rw [hsz]; exact h.bnd k hk, h.gS, h.gP, h.sP⟩, ⟨rfl, rfl, rfl, by omega, fun k _ hk => Below.heap_setCell _ _ _ _ (fun e => hk (by rw [e]; exact h.ownG))⟩⟩
  · rw [← hv]; exact heap_setCell_same w g i _ _ v h.blk
  · rw [h1]; exact World.ownsRow.kept h.rowS hg (.inr h.gS)
  · rw [h2]; exact World.ownsRow.kept h.rowP hg (.inr h.gP)
theorem Dsk.below (h : Dsk w base own g s S P) (hb : Below w.heap.size w w') : Dsk w' base own g s S P :=
  ⟨h.ok, (hb.block g h.lt).trans h.blk, World.ownsRow.kept h.rowS ⟨hb.os, hb.tape, hb.output, hb.size, fun k hk _ => hb.block k hk⟩ (row := none) (by cases S.ownBlock <;> simp),
   World.ownsRow.kept h.rowP ⟨hb.os, hb.tape, hb.output, hb.size, fun k hk _ => hb.block k hk⟩ (row := none) (by cases P.ownBlock <;> simp), h.ownG, h.ownS, h.ownP, fun k hk => ⟨(h.bnd k hk).1, Nat.lt_of_lt_of_le (h.bnd k hk).2 hb.size⟩, h.gS, h.gP, h.sP⟩

/-- An operation is counted. -/
def DS.op (s : DS) : Bool × DS := if s.down then (false, s) else if s.lit && s.fuse == 0 then (false, { s with down := true }) else (true, { s with fuse := wrap64 (s.fuse - 1) })
def OpPost (own : Nat → Prop) (base g : Nat) (s : DS) (S P : Value) (w : World) (e : Ending) (w' : World) : Prop := e = .returned (.bool s.op.1) ∧ Dsk w' base own g s.op.2 S P ∧ Turns own w w'

theorem OpPost.mk {s : DS} {b : Bool} {s' : DS} (he : s.op = (b, s')) {w w' : World} (h : Dsk w' base own g s' S P ∧ Turns own w w') : OpPost own base g s S P w (.returned (.bool b)) w' := ⟨by rw [he], by rw [he]; exact h.1, h.2⟩
set_option maxRecDepth 100000 in
set_option maxHeartbeats 1000000 in
theorem operation_any (h : Dsk w base own g s S P) : Calls Tryz.prog 121 #[.pointer (some ⟨g, 0, none⟩)] w (OpPost own base g s S P w) := by
  have f3 := h.field (i := 3) rfl
  have f4 := h.field (i := 4) rfl
  have f5 := h.field (i := 5) rfl
  have hfz := h.unfrozen
  obtain ⟨secs, pend, full, down, lit, fuse⟩ := s
  cases down with
  | true =>
    go_enter Tryz.func121, Tryz.ntmps121
    go_wp2
    go_ret
    exact OpPost.mk rfl ⟨h, Turns.refl _ _⟩
  | false =>
    by_cases hf : (lit && fuse == 0) = true
    · have hl : lit = true := by cases lit <;> simp_all
      have h0 : fuse = 0 := by cases lit <;> simp_all
      subst hl; subst h0
      clear hf
      go_enter Tryz.func121, Tryz.ntmps121
      go_wp2
      go_ret
      exact OpPost.mk rfl (h.put (s' := ⟨secs, pend, full, true, true, 0⟩) rfl rfl rfl)
    · have he : (DS.mk secs pend full false lit fuse).op = (true, ⟨secs, pend, full, false, lit, wrap64 (fuse - 1)⟩) := by
        unfold DS.op
        rw [if_neg (by simp), if_neg hf]
      have He := Lib.hid he
      clear he
      cases lit with
      | false =>
        clear hf
        go_enter Tryz.func121, Tryz.ntmps121
        go_wp2
        go_ret
        exact OpPost.mk He.out (h.put (s' := ⟨secs, pend, full, false, false, wrap64 (fuse - 1)⟩) rfl rfl rfl)
      | true =>
        have hf0 : (fuse == 0) = false := by simpa using hf
        clear hf
        go_enter Tryz.func121, Tryz.ntmps121
        go_wp2
        go_ret
        exact OpPost.mk He.out (h.put (s' := ⟨secs, pend, full, false, true, wrap64 (fuse - 1)⟩) rfl rfl rfl)
end Go.Proofs.YtbcpmnnlhdgbhaaGreatDoor

namespace Go.Proofs.YtbcpmnnlhdgbhaaGreatDoor
open Go.RowKit
variable {w w' : World} {base g : Nat} {own : Nat → Prop} {s : DS} {S P : Value}

theorem Dsk.formS (h : Dsk w base own g s S P) : ∃ A c, S = .slice A s.secs.length c := by
  obtain ⟨_, ⟨rfl, h0⟩ | ⟨g', cap, cur, rfl, _⟩⟩ := h.rowS
  · exact ⟨none, 0, by rw [h0]⟩
  · exact ⟨_, cap, rfl⟩
theorem Dsk.formP (h : Dsk w base own g s S P) : ∃ A c, P = .slice A s.pend.length c := by
  obtain ⟨_, ⟨rfl, h0⟩ | ⟨g', cap, cur, rfl, _⟩⟩ := h.rowP
  · exact ⟨none, 0, by rw [h0]⟩
  · exact ⟨_, cap, rfl⟩

set_option maxRecDepth 100000 in
set_option maxHeartbeats 1000000 in
theorem has_any (h : Dsk w base own g s S P) (n : Int) : Calls Tryz.prog 143 #[.pointer (some ⟨g, 0, none⟩), .int .i64 n] w fun e w' => e = .returned (.bool (decide (0 ≤ n ∧ n < (s.secs.length : Int)))) ∧ w' = w := by
  have f0 := h.field (i := 0) rfl
  obtain ⟨A, c, rfl⟩ := h.formS
  by_cases hn : 0 ≤ n
  · go_enter Tryz.func143, Tryz.ntmps143
    go_wp2
    go_ret
    exact ⟨by simp [hn], rfl⟩
  · go_enter Tryz.func143, Tryz.ntmps143
    go_wp2
    go_ret
    exact ⟨by simp; omega, rfl⟩
end Go.Proofs.YtbcpmnnlhdgbhaaGreatDoor

namespace Go.Proofs.YtbcpmnnlhdgbhaaGreatDoor
open Go.RowKit
theorem secinfo : (Tryz.prog.info? 32).map (fun i => (i.zero, i.size, i.bytes)) = some (some (.agg (bvs (List.replicate 64 0)).toArray), 64, 64) := by kernel_rfl
theorem peninfo : (Tryz.prog.info? 224).map (fun i => (i.zero, i.size, i.bytes)) = some (some (.agg (Value.int .i64 0 :: bvs (List.replicate 64 0)).toArray), 65, 72) := by kernel_rfl
def DS.fresh (n : Nat) : DS := ⟨List.replicate n (List.replicate 64 0), [], false, false, false, 0⟩
theorem bvs_zero (n : Nat) : bvs (List.replicate n 0) = List.replicate n (.int .u8 0) := by simp [bvs, bv]
theorem cellsS_fresh (n : Nat) : cellsS (List.replicate n (List.replicate 64 0)) = List.replicate (n * 64) (.int .u8 0) := by
  induction n with
  | zero => rfl
  | succ n ih =>
    show bvs (List.replicate 64 0) ++ cellsS (List.replicate n (List.replicate 64 0)) = _
    rw [ih, bvs_zero, List.replicate_append_replicate]
    congr 1; omega
theorem made_rep (m : Nat) (hm : 0 < m) (v : Value) (n : Nat) : (madeCells (List.replicate m v).toArray n).toList = List.replicate n v := by
  have key : ∀ j, j < m → ((List.replicate m v).toArray)[j]! = v := by
    intro j hj
    rw [getElem!_pos _ _ (by simpa using hj)]
    simp
  have hs : (List.replicate m v).toArray.size = m := by simp
  unfold madeCells
  rw [hs]
  apply List.ext_getElem
  · simp
  · intro i h1 h2
    simp only [Array.toList_map, List.getElem_map, List.getElem_replicate]
    exact key _ (Nat.mod_lt _ hm)
theorem made_fresh (n : Nat) : (madeCells (Value.agg (bvs (List.replicate 64 0)).toArray).cells (n * 64)).toList = cellsS (List.replicate n (List.replicate 64 0)) := by
  rw [cellsS_fresh, bvs_zero]
  exact made_rep 64 (by omega) _ _
theorem makeS {ops : Array Oper} {rest : List Oper} {o : Oper} {a : Act} {w : World} {Q : Exit → Act → World → Prop} {l c : Operand} {base n : Nat} {kl kc : IntKind} {L C : Int}
    (hgd : o.guard = none) (ho : o.op = Op.makeSlice 117 l c) (hl : a.eval l = .int kl L) (hc : a.eval c = .int kc C) (hL : L = (n : Int)) (hC : C = (n : Int)) (hn : n ≤ 65536) (hb : base ≤ w.heap.size)
    (h : ∀ w', w'.ownsRow base 32 64 (.slice (some ⟨w.heap.size, 0, none⟩) n n) n (cellsS (List.replicate n (List.replicate 64 0))) → w.grownBy w' none → wpList Tryz.prog ops Q rest (a.put o.dst (.slice (some ⟨w.heap.size, 0, none⟩) n n)) w') : wpList Tryz.prog ops Q (o :: rest) a w := by
  obtain ⟨i0, hi0, hz0, hz1, hz2⟩ := info_parts secinfo
  refine wpList_make_full w hgd l c _ ho base 32 i0 _ 64 Tryz.underlying117 hi0 hz0 hz1 kl kc L C n hl hc hL hC (by rw [hz2]; omega) (by simp only [maxLen]; omega) hb ?_
  intro w' h1 h2
  refine h w' ?_ h2
  rw [← made_fresh]
  exact h1
def NewPost (n : Nat) (w : World) (e : Ending) (w' : World) : Prop := ∃ g S P, e = .returned (.tuple #[.pointer (some ⟨g, 0, none⟩), .int .i64 0]) ∧ Dsk w' w.heap.size (fun k => w.heap.size ≤ k ∧ k < w'.heap.size) g (DS.fresh n) S P ∧ Below w.heap.size w w'
set_option maxRecDepth 100000 in
set_option maxHeartbeats 1000000 in
theorem New_any (n : Nat) (h1 : 1 ≤ n) (h2 : n ≤ 65536) (w : World) : Calls Tryz.prog 18 #[.int .i64 (n : Int)] w (NewPost n w) := by
  have h1' : (1 : Int) ≤ (n : Int) := by omega
  have h2' : (n : Int) ≤ 65536 := by omega
  go_enter Tryz.func18, Tryz.ntmps18
  go_wp2_with (refine makeS rfl rfl rfl rfl (n := n) rfl rfl h2 (Nat.le_refl _) ?_; intro w1 hrow hg; have Hrow := Lib.hid hrow; clear hrow)
  go_ret2
  have hlt := (World.ownsRow.lt Hrow.out w.heap.size rfl).2
  refine ⟨w1.heap.size, _, .slice none 0 0, rfl, ⟨⟨?_, ?_, ?_⟩, heap_alloc_new w1 _, ?_, ?_, ?_, ?_, ?_, ?_, ?_, ?_, ?_⟩, ?_⟩
  · intro l hl; rw [List.eq_of_mem_replicate hl]; exact List.length_replicate
  · intro p hp; cases hp
  · show (List.replicate n _).length ≤ 65536; rw [List.length_replicate]; exact h2
  · rw [show (DS.fresh n).secs.length = n from List.length_replicate]; exact World.ownsRow.alloc Hrow.out _
  · exact World.ownsRow_nil _ _ _ 65
  · exact ⟨hg.size, by simp⟩
  · intro k hk; cases hk; exact ⟨Nat.le_refl _, by simp; omega⟩
  · intro k hk; cases hk
  · exact fun k hk => hk
  · intro e; injection e with e; have e : w.heap.size = w1.heap.size := e; omega
  · intro e; cases e
  · exact .inr (fun e => by cases e)
  · exact (below_none (Below.refl _ _) hg).alloc hg.size _
end Go.Proofs.YtbcpmnnlhdgbhaaGreatDoor

namespace Go.Proofs.YtbcpmnnlhdgbhaaGreatDoor
open Go.RowKit
theorem cellsP_append (l m : List (Nat × List UInt8)) : cellsP (l ++ m) = cellsP l ++ cellsP m := by simp [cellsP]
theorem cellsP_one (l : List (Nat × List UInt8)) : ∀ u ∈ cellsP l, u.oneCell' = true := by
  intro u hu
  simp only [cellsP, List.mem_flatMap] at hu
  obtain ⟨p, _, hp⟩ := hu
  rcases List.mem_cons.1 hp with rfl | hp
  · rfl
  · exact bvs_one _ u hp
theorem appP {ops : Array Oper} {rest : List Oper} {o : Oper} {a : Act} {w : World} {Q : Exit → Act → World → Prop} {s x : Operand} {base B c : Nat} {v : Value} {l : List (Nat × List UInt8)} {A : Option Addr} {p : Nat × List UInt8}
    (hgd : o.guard = none) (ho : o.op = .call { callee := .builtin .append, args := #[s, x], argTypes := #[118, 118] })
    (hs : a.eval s = v) (hx : a.eval x = .slice A 1 c) (hown : w.ownsRow base 224 65 v l.length (cellsP l)) (hr : Reads w B 65 A 1 (cellsP [p])) (hbytes : (l.length + 1) * 72 ≤ 140737488355328) (hbase : base ≤ w.heap.size)
    (h : ∀ v' w', w'.ownsRow base 224 65 v' (l ++ [p]).length (cellsP (l ++ [p])) → w.grownBy w' v.ownBlock → (v'.ownBlock = v.ownBlock ∨ v'.ownBlock = some w.heap.size) → wpList Tryz.prog ops Q rest (a.put o.dst v') w') : wpList Tryz.prog ops Q (o :: rest) a w := by
  obtain ⟨i0, hi0, hz0, hz1, hz2⟩ := info_parts peninfo
  refine wpList_append_any w hgd s x _ ho base 224 i0 _ 65 72 Tryz.underlying118 hi0 hz0 hz1 hz2 (by rfl) (by omega) v l.length (cellsP l) hs hown B A 1 c (cellsP [p]) hx hr (cellsP_one _) (by simp only [maxLen]; omega) (by omega) hbase ?_
  intro v' w' h1 h2 h3
  refine h v' w' ?_ h2 h3
  rw [List.length_append, cellsP_append]
  exact h1
/-- The behaviour of Write. -/
def DS.write (s : DS) (n : Int) (d : List UInt8) : Int × DS :=
  if 0 ≤ n ∧ n < (s.secs.length : Int) then
    if s.op.1 = true then
      if s.op.2.full = true then (5, s.op.2) else (0, { s.op.2 with pend := s.op.2.pend ++ [(n.toNat, d)] })
    else (9, s.op.2)
  else (1, s)
end Go.Proofs.YtbcpmnnlhdgbhaaGreatDoor
