/- The texts KR3 TS1 TS2 TS3 TS4 DN1 of this work, merged by wip/merge.py. No conditions. -/
import Derived.Test.YtbcpmnnlhdgbhaaGreatDoorQG24
import Derived.Test.YtbcpmnnlhdgbhaaGreatDoorQG27
import Derived.Test.YtbcpmnnlhdgbhaaGreatDoorQG23
import Derived.Lib.ReflectliteSlice
import Derived.Laws.Externs
import Derived.Test.YtbcpmnnlhdgbhaaGreatDoorQG11
import Derived.Carry
namespace Go.Proofs.YtbcpmnnlhdgbhaaGreatDoor
open Go.RowKit Go.Lib
structure KeyV where
  g : Nat
  s : List UInt8
  v : List UInt8
def KeyV.cs (k : KeyV) : Array Value := (.int .u64 (k.g : Int) :: (bvs k.s ++ bvs k.v)).toArray
structure KeyV.ok (k : KeyV) : Prop where
  s : k.s.length = 32
  v : k.v.length = 32
theorem KeyV.size {k : KeyV} (h : k.ok) : k.cs.size = 65 := by simp [KeyV.cs, bvs_length, h.s, h.v]
theorem KeyV.cells (k : KeyV) : (k.cs.all fun x => x.oneCell') = true := by
  refine Array.all_eq_true'.2 fun v hv => ?_
  simp only [KeyV.cs, List.mem_toArray, List.mem_cons, List.mem_append] at hv
  rcases hv with rfl | h | h
  · rfl
  all_goals exact bvs_one _ v h
def keyZ : KeyV := ⟨0, List.replicate 32 0, List.replicate 32 0⟩
theorem zeroKey : ∀ w, (zeroValue 38).run Tryz.prog w = .ok (.agg keyZ.cs) w := fun w => by kernel_rfl
def keyPl : List (Nat × Nat) := [(0, 1), (1, 32), (33, 32)]
set_option maxRecDepth 100000 in
theorem built_key0 (ps : List (Nat × Value)) : (Tryz.prog).built 38 ps = Instr.fill (keyPl.toArray[·]?) keyZ.cs ps := by kernel_rfl
theorem built_key {g : Nat} {s v : List UInt8} (hs : s.length = 32) (hv : v.length = 32) : (Tryz.prog).built 38 [(0, .int .u64 (g : Int)), (1, .agg (bvs s).toArray), (2, .agg (bvs v).toArray)] = some (KeyV.mk g s v).cs := by
  rw [built_key0]
  let z32 : List Value := bvs (List.replicate 32 0)
  have lz : z32.length = 32 := by simp [z32, bvs_length]
  refine (Bd.fill_seg [] [.int .u64 0] [.int .u64 (g : Int)] (z32 ++ z32) rfl rfl rfl rfl).trans ?_
  refine (Bd.fill_seg [.int .u64 (g : Int)] z32 (bvs s) z32 rfl rfl (by rw [bvs_length, hs]; rfl) (by rw [lz, bvs_length, hs])).trans ?_
  refine (Bd.fill_seg ([.int .u64 (g : Int)] ++ bvs s) z32 (bvs v) [] (by simp) rfl (by rw [List.length_append, bvs_length, bvs_length, hs, hv]; rfl) (by rw [lz, bvs_length, hv])).trans ?_
  rw [Instr.fill]
  congr 1
  simp [KeyV.cs]
theorem retKey {w : World} {b : Nat} {k : KeyV} {T : TypeId} (hk : k.ok) (h : w.heap[b]? = some (.cells k.cs T (0, 0))) : (loadVar 38 ⟨b, 0, none⟩).run Tryz.prog w = .ok (.agg k.cs) w :=
  ret_row h Tryz.underlying38 rfl (by rw [KeyV.size hk]; kernel_rfl)
def keysF (Kt Kq : List Int) (secret : List UInt8) (g : Nat) : KeyV := ⟨g, pubF Kq (seedF Kt [115, 105, 103, 110] secret), pubF Kq (seedF Kt [118, 114, 102] secret)⟩
theorem keysF_ok (Kt Kq : List Int) (secret : List UInt8) (g : Nat) : (keysF Kt Kq secret g).ok := ⟨pubF_len _ _, pubF_len _ _⟩
def KRet (k : KeyV) (w : World) (e : Ending) (w' : World) : Prop := e = .returned (.agg k.cs) ∧ Below w.heap.size w w'
set_option maxRecDepth 100000 in
set_option maxHeartbeats 2000000 in
theorem KPublic_any (Kt Kq : List Int) (secret : List UInt8) (hs : secret.length = 32) (g : Nat) (w : World) (hw : NW w Kt Kq) : Calls Tryz.prog 71 #[.agg (bvs secret).toArray, .int .u64 (g : Int)] w (KRet (keysF Kt Kq secret g) w) := by
  have F0 := Lib.hid (BK.start w)
  have T0 : Hid True := trivial
  have HS := Lib.hid hs
  obtain ⟨l1, hl1⟩ : ∃ z, z = seedF Kt [115, 105, 103, 110] secret := ⟨_, rfl⟩
  obtain ⟨l2, hl2⟩ : ∃ z, z = seedF Kt [118, 114, 102] secret := ⟨_, rfl⟩
  obtain ⟨p1, hp1⟩ : ∃ z, z = pubF Kq l1 := ⟨_, rfl⟩
  obtain ⟨p2, hp2⟩ : ∃ z, z = pubF Kq l2 := ⟨_, rfl⟩
  have L1 : l1.length = 32 := by rw [hl1]; exact seedF_len _ _ _
  have L2 : l2.length = 32 := by rw [hl2]; exact seedF_len _ _ _
  have OK : Hid ((KeyV.mk g p1 p2).ok) := Lib.hid ⟨by rw [hp1]; exact pubF_len _ _, by rw [hp2]; exact pubF_len _ _⟩
  have BK1 : Hid ((Tryz.prog).built 38 [(0, .int .u64 (g : Int)), (1, .agg (bvs p1).toArray), (2, .agg (bvs p2).toArray)] = some (KeyV.mk g p1 p2).cs) := Lib.hid (built_key OK.out.s OK.out.v)
  have HR : keysF Kt Kq secret g = ⟨g, p1, p2⟩ := by rw [hp1, hp2, hl1, hl2]; rfl
  have C1 : Hid (∀ w', Below w.heap.size w w' → Calls Tryz.prog 106 #[.agg (bvs secret).toArray] w' (fun e w2 => e = .returned (.agg (bvs l1).toArray) ∧ Below w'.heap.size w' w2)) := fun w' hb => by rw [hl1]; exact SignSeed_any Kt Kq secret hs w' (hw.bel hb)
  have C2 : Hid (∀ w', Below w.heap.size w w' → Calls Tryz.prog 109 #[.agg (bvs secret).toArray] w' (fun e w2 => e = .returned (.agg (bvs l2).toArray) ∧ Below w'.heap.size w' w2)) := fun w' hb => by rw [hl2]; exact VrfSeed_any Kt Kq secret hs w' (hw.bel hb)
  have D1 : Hid (∀ w', Below w.heap.size w w' → Calls Tryz.prog 108 #[.agg (bvs l1).toArray] w' (fun e w2 => e = .returned (.agg (bvs p1).toArray) ∧ Below w'.heap.size w' w2)) := fun w' hb => by rw [hp1]; exact EPublic_any Kt Kq l1 L1 w' (hw.bel hb)
  have D2 : Hid (∀ w', Below w.heap.size w w' → Calls Tryz.prog 108 #[.agg (bvs l2).toArray] w' (fun e w2 => e = .returned (.agg (bvs p2).toArray) ∧ Below w'.heap.size w' w2)) := fun w' hb => by rw [hp2]; exact EPublic_any Kt Kq l2 L2 w' (hw.bel hb)
  rw [HR]
  clear hw hs hl1 hl2 hp1 hp2 L1 L2 HR
  go_enter Tryz.func71, Tryz.ntmps71
  go_wp2_with (first
    | (have hx_ := T0; refine s_box F0.out rfl rfl rfl rfl ?_; clear hx_ T0; intro w1 b1 h1 _; have F1 := Lib.hid h1; clear h1 F0; have T1 : Hid True := trivial)
    | (have hx_ := T1; refine s_alloc F1.out rfl rfl zeroKey rfl ?_; clear hx_ T1; intro w2 b2 h1 _; have F2 := Lib.hid h1; clear h1 F1; have T2 : Hid True := trivial))
  refine wp_region_rg' 8 [none, none, some (Tell.is (.agg (bvs l1).toArray)), some (Tell.is (.agg (bvs p1).toArray)), none, some (Tell.is (.agg (bvs l2).toArray)), some (Tell.is (.agg (bvs p2).toArray)), none] (by kernel_rfl) rfl (by kernel_rfl) ⟨Tell.is_good _, Tell.is_good _, Tell.is_good _, Tell.is_good _, trivial⟩ ?_
  simp only [List.take_succ_cons, List.take_zero, List.zip_cons_cons, List.zip_nil_right]
  try simp only [Act.put]
  try simp only [List.setIfInBounds_toArray, List.set_cons_succ, List.set_cons_zero]
  refine rg_e rfl fun N hNe => ?_
  go_big_quiet_step (fail)
  refine wpQuiet_nil ?_
  refine rg_load _ _ rfl b1 0 rfl (bvs secret).toArray (fun w' hb _ => (F2.out.later hb).range 1 rfl) Tryz.underlying31 rfl (by rw [bvs_size, HS.out]; kernel_rfl) ?_
  try simp only [Act.put]
  try simp only [List.setIfInBounds_toArray, List.set_cons_succ, List.set_cons_zero]
  refine rg_call 106 _ rfl (vs := [.agg (bvs secret).toArray]) rfl (fun _ _ => rfl) (v := .agg (bvs l1).toArray) (fun w' hb ht => C1.out w' (F2.out.later hb).below) ?_
  try simp only [Act.put]
  try simp only [List.setIfInBounds_toArray, List.set_cons_succ, List.set_cons_zero]
  refine rg_call 108 _ rfl (vs := [.agg (bvs l1).toArray]) rfl (fun _ _ => rfl) (v := .agg (bvs p1).toArray) (fun w' hb ht => D1.out w' (F2.out.later hb).below) ?_
  try simp only [Act.put]
  try simp only [List.setIfInBounds_toArray, List.set_cons_succ, List.set_cons_zero]
  refine rg_load _ _ rfl b1 0 rfl (bvs secret).toArray (fun w' hb _ => (F2.out.later hb).range 1 rfl) Tryz.underlying31 rfl (by rw [bvs_size, HS.out]; kernel_rfl) ?_
  try simp only [Act.put]
  try simp only [List.setIfInBounds_toArray, List.set_cons_succ, List.set_cons_zero]
  refine rg_call 109 _ rfl (vs := [.agg (bvs secret).toArray]) rfl (fun _ _ => rfl) (v := .agg (bvs l2).toArray) (fun w' hb ht => C2.out w' (F2.out.later hb).below) ?_
  try simp only [Act.put]
  try simp only [List.setIfInBounds_toArray, List.set_cons_succ, List.set_cons_zero]
  refine rg_call 108 _ rfl (vs := [.agg (bvs l2).toArray]) rfl (fun _ _ => rfl) (v := .agg (bvs p2).toArray) (fun w' hb ht => D2.out w' (F2.out.later hb).below) ?_
  try simp only [Act.put]
  try simp only [List.setIfInBounds_toArray, List.set_cons_succ, List.set_cons_zero]
  refine rg_build rfl (ps := [(0, .int .u64 (g : Int)), (1, .agg (bvs p1).toArray), (2, .agg (bvs p2).toArray)]) rfl BK1.out ?_
  try simp only [Act.put]
  try simp only [List.setIfInBounds_toArray, List.set_cons_succ, List.set_cons_zero]
  intro w3 hb hfs hnd hown
  have F3 := Lib.hid (F2.out.later hb)
  clear hb hfs hnd hown F2
  simp only [List.drop_succ_cons, List.drop_zero]
  try simp only [Act.put]
  try simp only [List.setIfInBounds_toArray, List.set_cons_succ, List.set_cons_zero]
  have T2 : Hid True := trivial
  go_wp2_with (have hx_ := T2; refine s_store F3.out rfl rfl 0 rfl rfl (KeyV.mk g p1 p2).cs rfl (by rw [KeyV.size OK.out]; rfl) (by rw [KeyV.size OK.out]; kernel_rfl) (KeyV.cells _) ?_; clear hx_ T2; intro w4 h1; have F4 := Lib.hid h1; clear h1 F3; have T3 : Hid True := trivial)
  exact bodyPost_ret (v := .agg (KeyV.mk g p1 p2).cs) (by simp [results, Tryz.results71, asAddr]; exact retKey OK.out (F4.out.mem (i := 0) rfl)) rfl ⟨rfl, F4.out.below⟩
def signRootF (Kt Kq : List Int) (secret : List UInt8) (r : RootV) : RootV := { r with s := signF Kq (seedF Kt [115, 105, 103, 110] secret) (rootB r) }
theorem signRootF_ok (Kt Kq : List Int) (secret : List UInt8) {r : RootV} (h : r.ok) : (signRootF Kt Kq secret r).ok := by
  unfold signRootF
  generalize hs : signF Kq (seedF Kt [115, 105, 103, 110] secret) (rootB r) = s
  have h1 : s.length = 64 := by rw [← hs]; exact signF_len _ _ _
  exact ⟨h.e, h.k, h.g, h.p, h.h, h.l, h1⟩
def RootRet (r : RootV) (w : World) (e : Ending) (w' : World) : Prop := e = .returned (.agg r.cs) ∧ Below w.heap.size w w'
theorem RootV.size {r : RootV} (h : r.ok) : r.cs.size = 163 := by simp [RootV.cs, RootV.vs, bvs_length, h.p, h.h, h.l, h.s]
theorem RootV.cells (r : RootV) : (r.cs.all fun x => x.oneCell') = true := by
  refine Array.all_eq_true'.2 fun v hv => ?_
  simp only [RootV.cs, RootV.vs, List.mem_toArray, List.mem_cons, List.mem_append] at hv
  rcases hv with rfl | rfl | rfl | h | h | h | h
  · rfl
  · rfl
  · rfl
  all_goals exact bvs_one _ v h
def rootZ0 : RootV := ⟨0, 0, 0, List.replicate 32 0, List.replicate 32 0, List.replicate 32 0, List.replicate 64 0⟩
theorem zeroRoot : ∀ w, (zeroValue 34).run Tryz.prog w = .ok (.agg rootZ0.cs) w := fun w => by kernel_rfl
theorem retRoot {w : World} {b : Nat} {r : RootV} {T : TypeId} (hr : r.ok) (h : w.heap[b]? = some (.cells r.cs T (0, 0))) : (loadVar 34 ⟨b, 0, none⟩).run Tryz.prog w = .ok (.agg r.cs) w :=
  ret_row h Tryz.underlying34 rfl (by rw [RootV.size hr]; kernel_rfl)
theorem put_sig {e k g : Nat} {p h l s s' : List UInt8} (hp : p.length = 32) (hh : h.length = 32) (hl : l.length = 32) (hs : s.length = 64) (hs' : s'.length = 64) : putPart (RootV.mk e k g p h l s).cs 99 (bvs s') = (RootV.mk e k g p h l s').cs := by
  have h1 := putPart_mid ([.int .u64 (e : Int), .int .u64 (k : Int), .int .u64 (g : Int)] ++ (bvs p ++ (bvs h ++ bvs l))) (bvs s) [] (bvs s') 99 (by simp [bvs_length, hp, hh, hl]) (by rw [bvs_length, bvs_length, hs, hs'])
  simpa [RootV.cs, RootV.vs] using h1
set_option maxRecDepth 100000 in
set_option maxHeartbeats 2000000 in
theorem SignRoot_any (Kt Kq : List Int) (secret : List UInt8) (hs : secret.length = 32) (r : RootV) (hr : r.ok) (w : World) (hw : NW w Kt Kq) : Calls Tryz.prog 81 #[.agg (bvs secret).toArray, .agg r.cs] w (RootRet (signRootF Kt Kq secret r) w) := by
  have F0 := Lib.hid (BK.start w)
  have T0 : Hid True := trivial
  have HS := Lib.hid hs
  have HR := Lib.hid hr
  obtain ⟨l1, hl1⟩ : ∃ z, z = seedF Kt [115, 105, 103, 110] secret := ⟨_, rfl⟩
  have L1 : l1.length = 32 := by rw [hl1]; exact seedF_len _ _ _
  obtain ⟨m, hm⟩ : ∃ z, z = rootB r := ⟨_, rfl⟩
  have Lm : m.length = 156 := by rw [hm]; exact rootB_length hr
  obtain ⟨s, hs0⟩ : ∃ z, z = signF Kq l1 m := ⟨_, rfl⟩
  have Ls : Hid (s.length = 64) := by show _ = _; rw [hs0]; exact signF_len _ _ _
  obtain ⟨r2, hr2⟩ : ∃ z, z = signRootF Kt Kq secret r := ⟨_, rfl⟩
  have HR2 : Hid r2.ok := by show r2.ok; rw [hr2]; exact signRootF_ok _ _ _ hr
  have PS : Hid (putPart r.cs 99 (bvs s).toArray.toList = r2.cs) := by
    show _ = _
    rw [hr2, List.toList_toArray, hs0, hm, hl1]
    exact put_sig hr.p hr.h hr.l hr.s (signF_len _ _ _)
  have C1 : Hid (∀ w', Below w.heap.size w w' → Calls Tryz.prog 106 #[.agg (bvs secret).toArray] w' (fun e w2 => e = .returned (.agg (bvs l1).toArray) ∧ Below w'.heap.size w' w2)) := fun w' hb => by rw [hl1]; exact SignSeed_any Kt Kq secret hs w' (hw.bel hb)
  have C2 : Hid (∀ w', Calls Tryz.prog 117 #[.agg r.cs] w' (BPost m w')) := fun w' => by rw [hm]; exact RootBytes_any r hr w'
  have C3 : Hid (∀ w' A c, Below w.heap.size w w' → m.length ≤ c → Reads w' w'.heap.size 1 A m.length (bvs m) → Calls Tryz.prog 105 #[.agg (bvs l1).toArray, .slice A m.length c] w' (fun e w2 => e = .returned (.agg (bvs s).toArray) ∧ Below w'.heap.size w' w2)) := fun w' A c hb hc hrd => by
    rw [hs0]; exact Sign_any Kt Kq l1 m L1 A m.length c rfl hc (by rw [Lm]; decide) (by rw [Lm]; decide) (by rw [Lm]; decide) w' (hw.bel hb) hrd
  rw [← hr2]
  clear hw hs hr hl1 hm hs0 hr2 L1 Lm
  go_enter Tryz.func81, Tryz.ntmps81
  go_wp2_with (first
    | (have hx_ := T0; refine s_box F0.out rfl rfl rfl rfl ?_; clear hx_ T0; intro w1 b1 h1 _; have F1 := Lib.hid h1; clear h1 F0; have T1 : Hid True := trivial)
    | (have hx_ := T1; refine s_box F1.out rfl rfl rfl rfl ?_; clear hx_ T1; intro w2 b2 h1 _; have F2 := Lib.hid h1; clear h1 F1; have T2 : Hid True := trivial)
    | (have hx_ := T2; refine s_alloc F2.out rfl rfl zeroRoot rfl ?_; clear hx_ T2; intro w3 b3 h1 _; have F3 := Lib.hid h1; clear h1 F2; have T3 : Hid True := trivial))
  refine wp_region_rg' 6 [none, some (Tell.is (.agg (bvs l1).toArray)), none, some (Tell.bytes m), some (Tell.is (.agg (bvs s).toArray)), none] (by kernel_rfl) rfl (by kernel_rfl) ⟨Tell.is_good _, Tell.bytes_good _, Tell.is_good _, trivial⟩ ?_
  simp only [List.take_succ_cons, List.take_zero, List.zip_cons_cons, List.zip_nil_right]
  try simp only [Act.put]
  try simp only [List.setIfInBounds_toArray, List.set_cons_succ, List.set_cons_zero]
  refine rg_load _ _ rfl b1 0 rfl (bvs secret).toArray (fun w' hb _ => (F3.out.later hb).range 2 rfl) Tryz.underlying31 rfl (by rw [bvs_size, HS.out]; kernel_rfl) ?_
  try simp only [Act.put]
  try simp only [List.setIfInBounds_toArray, List.set_cons_succ, List.set_cons_zero]
  refine rg_call 106 _ rfl (vs := [.agg (bvs secret).toArray]) rfl (fun _ _ => rfl) (v := .agg (bvs l1).toArray) (fun w' hb ht => C1.out w' (F3.out.later hb).below) ?_
  try simp only [Act.put]
  try simp only [List.setIfInBounds_toArray, List.set_cons_succ, List.set_cons_zero]
  refine rg_load _ _ rfl b2 0 rfl r.cs (fun w' hb _ => (F3.out.later hb).range 1 rfl) Tryz.underlying34 rfl (by rw [RootV.size HR.out]; kernel_rfl) ?_
  try simp only [Act.put]
  try simp only [List.setIfInBounds_toArray, List.set_cons_succ, List.set_cons_zero]
  refine rg_call_bytes 117 _ rfl (vs := [.agg r.cs]) rfl (fun _ _ => rfl) (b := m) (fun w' hb ht => C2.out w') ?_
  intro A c hc
  have HC := Lib.hid hc
  clear hc
  try simp only [Act.put]
  try simp only [List.setIfInBounds_toArray, List.set_cons_succ, List.set_cons_zero]
  refine rg_call 105 _ rfl (vs := [.agg (bvs l1).toArray, .slice A m.length c]) rfl (fun _ _ => rfl) (v := .agg (bvs s).toArray) (fun w' hb ht => C3.out w' A c (F3.out.later hb).below HC.out (told_at ht 1 rfl (by kernel_rfl))) ?_
  try simp only [Act.put]
  try simp only [List.setIfInBounds_toArray, List.set_cons_succ, List.set_cons_zero]
  refine rg_e rfl fun N hNe => ?_
  go_big_quiet_step (fail)
  refine wpQuiet_nil ?_
  intro w4 hb hfs hnd hown
  have F4 := Lib.hid (F3.out.later hb)
  clear hb hfs hnd hown F3
  simp only [List.drop_succ_cons, List.drop_zero]
  try simp only [Act.put]
  try simp only [List.setIfInBounds_toArray, List.set_cons_succ, List.set_cons_zero]
  have T3 : Hid True := trivial
  go_wp2_with (first
    | (have hx_ := T3; refine s_store_at F4.out rfl rfl 1 rfl 99 rfl (bvs s).toArray rfl (by rw [bvs_size, Ls.out, RootV.size HR.out]; decide) (by rw [bvs_size, Ls.out]; kernel_rfl) (bvs_cells _) ?_; clear hx_ T3; intro w5 h1; simp only [List.set_cons_succ, List.set_cons_zero] at h1; rw [PS.out] at h1; have F5 := Lib.hid h1; clear h1 F4; have T4 : Hid True := trivial)
    | (have hx_ := T4; refine wpList_load_arr rfl _ _ rfl b2 0 rfl r2.cs _ (by with_reducible exact F5.out.range 1 rfl) Tryz.underlying34 rfl (by rw [RootV.size HR2.out]; kernel_rfl) ?_; clear hx_ T4; have T5 : Hid True := trivial)
    | (have hx_ := T5; refine s_store F5.out rfl rfl 0 rfl rfl r2.cs rfl (by rw [RootV.size HR2.out]; rfl) (by rw [RootV.size HR2.out]; kernel_rfl) (RootV.cells _) ?_; clear hx_ T5; intro w6 h1; have F6 := Lib.hid h1; clear h1 F5; have T6 : Hid True := trivial))
  exact bodyPost_ret (v := .agg r2.cs) (by simp [results, Tryz.results81, asAddr]; exact retRoot HR2.out (F6.out.mem (i := 0) rfl)) rfl ⟨rfl, F6.out.below⟩
end Go.Proofs.YtbcpmnnlhdgbhaaGreatDoor

namespace Go.Proofs.YtbcpmnnlhdgbhaaGreatDoor
open Go.RowKit Go.Lib
set_option maxRecDepth 100000 in
set_option maxHeartbeats 400000 in
theorem insertion0 (f g : Value) (w : World) : Calls Tryz.prog 248 #[.agg #[f, g], .int .i64 0, .int .i64 0] w (fun e w' => e = .returned (.tuple #[]) ∧ Below w.heap.size w w') := by
  have F0 := Lib.hid (BK.start w)
  have T0 : Hid True := trivial
  go_enter Tryz.func248, Tryz.ntmps248
  go_wp2_with (have hx_ := T0; refine s_box F0.out rfl rfl rfl rfl ?_; clear hx_ T0; intro w1 b1 h1 _; have F1 := Lib.hid h1; clear h1 F0)
  go_loopw [6] (fun iv wr => iv = .int .i64 1 ∧ Hid (BK w wr [(b1, #[f, g], 331)])) (fun _ _ => 0)
  case atStart => exact ⟨rfl, F1⟩
  case round =>
    obtain ⟨rfl, hF⟩ := hrel
    go_wp2
    first
      | go_end0
      | (refine bodyPost_ret (results_none rfl _ _ _) rfl ?_)
    exact ⟨rfl, hF.out.below⟩
set_option maxRecDepth 100000 in
set_option maxHeartbeats 400000 in
theorem pdq0 (f g : Value) (w : World) : Calls Tryz.prog 215 #[.agg #[f, g], .int .i64 0, .int .i64 0, .int .i64 0] w (fun e w' => e = .returned (.tuple #[]) ∧ Below w.heap.size w w') := by
  have F0 := Lib.hid (BK.start w)
  have T0 : Hid True := trivial
  go_enter Tryz.func215, Tryz.ntmps215
  go_wp2_with (have hx_ := T0; refine s_box F0.out rfl rfl rfl rfl ?_; clear hx_ T0; intro w1 b1 h1 _; have F1 := Lib.hid h1; clear h1 F0)
  go_loopw [1, 2] (fun v1 v2 wr => v1 = .int .i64 0 ∧ v2 = .int .i64 0 ∧ Hid (BK w wr [(b1, #[f, g], 331)])) (fun _ _ _ => 0)
  case atStart => exact ⟨rfl, rfl, F1⟩
  case round =>
    obtain ⟨rfl, rfl, F2⟩ := hrel
    clear F1
    have T0 : Hid True := trivial
    go_wp2_with (first
      | (have hx_ := T0; refine wpList_load_arr rfl _ _ rfl b1 0 rfl #[f, g] _ (by with_reducible exact F2.out.range 0 rfl) Tryz.underlying331 rfl (by kernel_rfl) ?_; clear hx_ T0; have T1 : Hid True := trivial)
      | (go_at_call 248; have hx_ := T1; refine (insertion0 f g _).mono ?_; clear hx_ T1; rintro e w3 ⟨rfl, hb⟩; have F3 := Lib.hid (F2.out.later hb); clear hb F2))
    first
      | go_end0
      | (refine bodyPost_ret (results_none rfl _ _ _) rfl ?_)
    exact ⟨rfl, F3.out.below⟩
end Go.Proofs.YtbcpmnnlhdgbhaaGreatDoor

namespace Go.Proofs.YtbcpmnnlhdgbhaaGreatDoor
open Go.RowKit Go.Lib
section
variable {ops : Array Oper} {rest : List Oper} {o : Oper} {a : Act} {w : World} {Q : Exit → Act → World → Prop}
/-- A call of a function without a body: what its entry yields. -/
theorem s_ext (hg : o.guard = none) (f : FuncId) (xs : List Operand) {ts : Array TypeId} (ho : o.op = .call { callee := .value (.func f), args := xs.toArray, argTypes := ts }) {vs : List Value} (hx : xs.map a.eval = vs) {v : Value} {w' : World} (hrun : (callFunc f vs.toArray).run Tryz.prog w = .ok (.value v) w')
    (h : wpList Tryz.prog ops Q rest (a.put o.dst v) w') : wpList Tryz.prog ops Q (o :: rest) a w := by
  refine wpList_plain hg fun _ hK => ?_
  unfold Oper.wp execOp
  simp only [ho, resolve, List.map_toArray, hx, Act.eval, Deferred.ofValue, Sem.run_bind, Sem.run_pure, Result.andThen_ok, invoke, Array.append_empty, Array.empty_append, hrun]
  exact hK _ _ h
end
theorem nodesInfo : ∃ i, Tryz.prog.info? 44 = some i ∧ i.desc = .slice 173 := by
  have h : (Tryz.prog.info? 44).map (·.desc) = some (.slice 173) := by kernel_rfl
  cases hi : Tryz.prog.info? 44 with
  | none => rw [hi] at h; cases h
  | some i => rw [hi] at h; exact ⟨i, rfl, by simpa using h⟩
theorem nodeInfo : ∃ i, Tryz.prog.info? 173 = some i := by
  have h : (Tryz.prog.info? 173).isSome = true := by kernel_rfl
  exact Option.isSome_iff_exists.1 h
theorem valueOf0 (A : Option Addr) (c : Nat) (w : World) : (callFunc 212 #[.iface 44 (.slice A 0 c)]).run Tryz.prog w = .ok (.value (.agg #[typeHandle Tryz.prog 44, .pointer (some ⟨w.heap.size, 0, none⟩), .int .u64 151])) (w.alloc (.cells #[.slice A 0 c] 44)) := by
  obtain ⟨i, hi, hd⟩ := nodesInfo
  rw [run_callFunc_extern Tryz.func212 (by kernel_rfl) (by kernel_rfl) (by kernel_rfl) (e := fun args => Extern.ReflectliteValue.unpack (args.getD 0 (.tuple #[]))) (by kernel_rfl)]
  rw [show (#[Value.iface 44 (Value.slice A 0 c)].getD 0 (.tuple #[])) = Value.iface 44 (Value.slice A 0 c) from rfl, run_valueOf_slice _ _ i hi hd, Result.andThen_ok]
theorem swapper0 (A : Option Addr) (c : Nat) (w : World) : (callFunc 213 #[.iface 44 (.slice A 0 c)]).run Tryz.prog w = .ok (.value (.func (.func 239) #[] #[])) w := by
  obtain ⟨i, hi, hd⟩ := nodesInfo
  obtain ⟨ie, hie⟩ := nodeInfo
  rw [run_callFunc_extern Tryz.func213 (by kernel_rfl) (by kernel_rfl) (by kernel_rfl) (e := Extern.ReflectliteSwapper.swapper "internal/reflectlite" (Extern.ReflectliteValue.valueError "Swapper")) (by kernel_rfl)]
  have hf : Tryz.prog.funcs.findIdx? (·.name == "internal/reflectlite" ++ ".Swapper$" ++ toString (swapperK 0 ie 25)) = some 239 := by
    show Tryz.prog.funcs.findIdx? (·.name == "internal/reflectlite" ++ ".Swapper$" ++ toString 1) = some 239
    kernel_rfl
  rw [run_swapper_slice _ _ i ie hi hd hie 25 (fun w => by kernel_rfl) A 0 c _ hf w, Result.andThen_ok]
  rfl
theorem len0 (A : Option Addr) (c : Nat) (b : Nat) (w : World) (hc : w.cell? ⟨b, 0, none⟩ = some (.slice A 0 c)) : (callFunc 214 #[.agg #[typeHandle Tryz.prog 44, .pointer (some ⟨b, 0, none⟩), .int .u64 151]]).run Tryz.prog w = .ok (.value (.int .i64 0)) w := by
  obtain ⟨i, hi, hd⟩ := nodesInfo
  rw [run_callFunc_extern Tryz.func214 (by kernel_rfl) (by kernel_rfl) (by kernel_rfl) (e := Extern.ReflectliteValue.method (Extern.ReflectliteValue.valueError "reflectlite.Value.Len" 0) Extern.ReflectliteValue.len) (by kernel_rfl)]
  rw [run_valueLen_slice _ _ i hi hd (by kernel_rfl) ⟨b, 0, none⟩ A 0 c w hc, Result.andThen_ok]
  rfl
end Go.Proofs.YtbcpmnnlhdgbhaaGreatDoor

namespace Go.Proofs.YtbcpmnnlhdgbhaaGreatDoor
open Go.RowKit Go.Lib
set_option maxRecDepth 100000 in
set_option maxHeartbeats 1000000 in
theorem len64_0 (w : World) : Calls Tryz.prog 167 #[.int .u64 0] w (fun e w' => e = .returned (.int .i64 0) ∧ w' = w) := by
  go_enter Tryz.func167, Tryz.ntmps167
  go_wp2
  go_ret
  exact ⟨by kernel_rfl, rfl⟩
set_option maxRecDepth 100000 in
set_option maxHeartbeats 1000000 in
theorem bitsLen0 (w : World) : Calls Tryz.prog 130 #[.int .u64 0] w (fun e w' => e = .returned (.int .i64 0) ∧ w' = w) := by
  go_enter Tryz.func130, Tryz.ntmps130
  go_wp2_with (go_at_call 167; refine (len64_0 w).mono ?_; rintro e w2 ⟨rfl, rfl⟩)
  go_ret
  exact ⟨rfl, rfl⟩
theorem zeroRV : ∀ w, (zeroValue 325).run Tryz.prog w = .ok (.agg #[.pointer none, .pointer none, .int .u64 0]) w := fun w => by kernel_rfl
set_option maxRecDepth 100000 in
set_option maxHeartbeats 1000000 in
theorem sortSlice0 (A : Option Addr) (c m : Nat) (p : Addr) (w : World) : Calls Tryz.prog 170 #[.iface 44 (.slice A 0 c), .func (.func m) #[] #[.pointer (some p)]] w (fun e w' => e = .returned (.tuple #[]) ∧ Below w.heap.size w w') := by
  have F0 := Lib.hid (BK.start w)
  have T0 : Hid True := trivial
  obtain ⟨ad, hH⟩ : ∃ ad, Value.pointer (some ad) = typeHandle Tryz.prog 44 := ⟨_, rfl⟩
  have X1 : Hid (∀ w, (callFunc 212 #[.iface 44 (.slice A 0 c)]).run Tryz.prog w = .ok (.value (.agg #[.pointer (some ad), .pointer (some ⟨w.heap.size, 0, none⟩), .int .u64 151])) (w.alloc (.cells #[.slice A 0 c] 44))) := fun w => by rw [hH]; exact valueOf0 A c w
  have X2 : Hid (∀ w, (callFunc 213 #[.iface 44 (.slice A 0 c)]).run Tryz.prog w = .ok (.value (.func (.func 239) #[] #[])) w) := fun w => swapper0 A c w
  have X3 : Hid (∀ b w, w.cell? ⟨b, 0, none⟩ = some (.slice A 0 c) → (callFunc 214 #[.agg #[.pointer (some ad), .pointer (some ⟨b, 0, none⟩), .int .u64 151]]).run Tryz.prog w = .ok (.value (.int .i64 0)) w) := fun b w hc => by rw [hH]; exact len0 A c b w hc
  clear hH
  go_enter Tryz.func170, Tryz.ntmps170
  go_wp2_with (first
    | (have hx_ := T0; refine s_ext rfl 212 _ rfl (vs := [.iface 44 (.slice A 0 c)]) rfl (X1.out w) ?_; clear hx_ T0; have h1 := F0.out.alloc rfl #[.slice A 0 c] 44; obtain ⟨b1, hb1⟩ : ∃ b, b = w.heap.size := ⟨_, rfl⟩; obtain ⟨w1, hw1⟩ : ∃ x, x = w.alloc (.cells #[.slice A 0 c] 44) := ⟨_, rfl⟩; rw [← hw1, ← hb1] at h1 ⊢; have F1 := Lib.hid h1; clear h1 hw1 hb1 F0; have T1 : Hid True := trivial)
    | (have hx_ := T1; refine s_alloc F1.out rfl rfl zeroRV rfl ?_; clear hx_ T1; intro w2 b2 h1 _; have F2 := Lib.hid h1; clear h1 F1; have T2 : Hid True := trivial)
    | (have hx_ := T2; refine s_store F2.out rfl rfl 0 rfl rfl #[.pointer (some ad), .pointer (some ⟨b1, 0, none⟩), .int .u64 151] rfl rfl (by kernel_rfl) (by simp [Value.oneCell']) ?_; clear hx_ T2; intro w3 h1; have F3 := Lib.hid h1; clear h1 F2; have T3 : Hid True := trivial)
    | (have hx_ := T3; refine s_ext rfl 213 _ rfl (vs := [.iface 44 (.slice A 0 c)]) rfl (X2.out _) ?_; clear hx_ T3; have T4 : Hid True := trivial)
    | (have hx_ := T4; refine wpList_load_arr rfl _ _ rfl b2 0 rfl #[.pointer (some ad), .pointer (some ⟨b1, 0, none⟩), .int .u64 151] _ (by with_reducible exact F3.out.range 0 rfl) Tryz.underlying325 rfl (by kernel_rfl) ?_; clear hx_ T4; have T5 : Hid True := trivial)
    | (have hx_ := T5; refine s_ext rfl 214 _ rfl (vs := [.agg #[.pointer (some ad), .pointer (some ⟨b1, 0, none⟩), .int .u64 151]]) rfl (X3.out b1 _ (F3.out.cell 1 rfl 0)) ?_; clear hx_ T5; have T6 : Hid True := trivial)
    | (go_at_call 130; have hx_ := T6; refine (bitsLen0 _).mono ?_; clear hx_ T6; rintro e w4 ⟨rfl, hw_⟩; subst hw_; have T7 : Hid True := trivial)
    | (go_at_call 215; have hx_ := T7; refine (pdq0 (.func (.func m) #[] #[.pointer (some p)]) (.func (.func 239) #[] #[]) _).mono ?_; clear hx_ T7; rintro e w5 ⟨rfl, hb⟩; have F5 := Lib.hid (F3.out.later hb); clear hb F3))
  first
    | go_end0
    | (refine bodyPost_ret (results_none rfl _ _ _) rfl ?_)
  exact ⟨rfl, F5.out.below⟩
set_option maxRecDepth 100000 in
set_option maxHeartbeats 1000000 in
theorem treeSort0 (A : Option Addr) (c : Nat) (w : World) : Calls Tryz.prog 134 #[.slice A 0 c] w (fun e w' => e = .returned (.tuple #[]) ∧ Below w.heap.size w w') := by
  have F0 := Lib.hid (BK.start w)
  have T0 : Hid True := trivial
  go_enter Tryz.func134, Tryz.ntmps134
  go_wp2_with (go_at_call 170; have hx_ := T0; refine (sortSlice0 A c _ _ _).mono ?_; clear hx_ T0; rintro e w5 ⟨rfl, hb⟩; have F5 := Lib.hid ((F0.out.alloc rfl #[.slice A 0 c] 44).later hb); clear hb F0)
  first
    | go_end0
    | (refine bodyPost_ret (results_none rfl _ _ _) rfl ?_)
  exact ⟨rfl, F5.out.below⟩
end Go.Proofs.YtbcpmnnlhdgbhaaGreatDoor

namespace Go.Proofs.YtbcpmnnlhdgbhaaGreatDoor
open Go.RowKit Go.Lib
set_option maxRecDepth 100000 in
set_option maxHeartbeats 1000000 in
theorem apart0 (A : Option Addr) (c : Nat) (w : World) : Calls Tryz.prog 102 #[.slice A 0 c] w (fun e w' => e = .returned (.bool true) ∧ w' = w) := by
  go_enter Tryz.func102, Tryz.ntmps102
  go_wp2
  go_loopw [8] (fun iv wr => iv = .int .i64 0 ∧ wr = w) (fun _ _ => 0)
  case atStart => exact ⟨rfl, rfl⟩
  case round =>
    obtain ⟨rfl, rfl⟩ := hrel
    go_wp2
    go_ret
    exact ⟨rfl, rfl⟩
theorem mk42 (w : World) : (Instr.makeSlice 44 (.int .i64 0) (.int .i64 0)).run Tryz.prog w = .ok (.slice (some ⟨w.heap.size, 0, none⟩) 0 0) (w.alloc (.cells #[] 173)) := by kernel_rfl
set_option maxRecDepth 100000 in
set_option maxHeartbeats 1000000 in
theorem nodes0 (A : Option Addr) (c : Nat) (w : World) : Calls Tryz.prog 103 #[.slice A 0 c] w (fun e w' => (∃ b, e = .returned (.slice (some ⟨b, 0, none⟩) 0 0)) ∧ Below w.heap.size w w') := by
  have F0 := Lib.hid (BK.start w)
  have T0 : Hid True := trivial
  go_enter Tryz.func103, Tryz.ntmps103
  go_wp2_with (have hx_ := T0; refine s_make F0.out rfl rfl mk42 rfl ?_; clear hx_ T0; intro w1 b1 h1 _; have F1 := Lib.hid h1; clear h1 F0)
  go_loopw [11] (fun iv wr => iv = .int .i64 0 ∧ Hid (BK w wr [(b1, #[], 173)])) (fun _ _ => 0)
  case atStart => exact ⟨rfl, F1⟩
  case round =>
    obtain ⟨rfl, F2⟩ := hrel
    clear F1
    have T0 : Hid True := trivial
    go_wp2_with (go_at_call 134; have hx_ := T0; refine (treeSort0 _ _ _).mono ?_; clear hx_ T0; rintro e w5 ⟨rfl, hb⟩; have F5 := Lib.hid (F2.out.later hb); clear hb F2)
    go_ret
    exact ⟨⟨b1, rfl⟩, F5.out.below⟩
theorem bs1 (x : Int) (w : World) : (Instr.buildSlice 96 1 #[(0, .int .u8 x)]).run Tryz.prog w = .ok (.slice (some ⟨w.heap.size, 0, none⟩) 1 1) (w.alloc (.cells #[.int .u8 x] 5)) := by kernel_rfl
section
variable {ops : Array Oper} {rest : List Oper} {o : Oper} {a : Act} {w0 w : World} {Q : Exit → Act → World → Prop} {bs : List (Nat × Array Value × TypeId)}
theorem s_byte1 (F : BK w0 w bs) (hg : o.guard = none) {x : Operand} (ho : o.op = .buildSlice 96 1 #[(0, x)]) {k : Int} (hx : a.eval x = .int .u8 k)
    (h : ∀ w' b, BK w0 w' ((b, #[.int .u8 k], 5) :: bs) → Below w.heap.size w w' → wpList Tryz.prog ops Q rest (a.put o.dst (.slice (some ⟨b, 0, none⟩) 1 1)) w') : wpList Tryz.prog ops Q (o :: rest) a w :=
  s_row F hg ho (fun w => by simp only [List.map_toArray, List.map_cons, List.map_nil, hx]; exact bs1 k w) h
end
def root0F (K : List Int) : List UInt8 := sumF K [0]
set_option maxRecDepth 100000 in
set_option maxHeartbeats 1000000 in
theorem root0 (Kt Kq : List Int) (A : Option Addr) (c : Nat) (w : World) (hw : NW w Kt Kq) : Calls Tryz.prog 116 #[.slice A 0 c] w (fun e w' => e = .returned (.tuple #[.agg (bvs (root0F Kt)).toArray, .int .i64 0]) ∧ Below w.heap.size w w') := by
  have F0 := Lib.hid (BK.start w)
  have T0 : Hid True := trivial
  have HW := Lib.hid hw
  obtain ⟨l, hl⟩ : ∃ l, l = root0F Kt := ⟨_, rfl⟩
  have Ll : Hid (l.length = 32) := by show _ = _; rw [hl]; exact sumF_len _ _
  have CS : Hid (∀ b w', Below w.heap.size w w' → w'.heap[b]? = some (.cells #[.int .u8 0] 5 (0, 0)) → Calls Tryz.prog 60 #[.slice (some ⟨b, 0, none⟩) 1 1] w' (fun e w2 => e = .returned (.agg (bvs l).toArray) ∧ Below w'.heap.size w' w2)) := fun b w' hb h1 => by
    rw [hl]
    exact (Sum256_any (some ⟨b, 0, none⟩) 1 1 Kt [0] w' (hw.bel hb).1 (reads_block (l := [0]) (n := 1) h1 rfl) (by decide) (by decide) (by decide)).mono fun e w2 h => h
  rw [← hl]
  clear hw hl
  go_enter Tryz.func116, Tryz.ntmps116
  go_wp2_with (first
    | (have hx_ := T0; refine s_alloc F0.out rfl rfl zeroB32 rfl ?_; clear hx_ T0; intro w1 b1 h1 _; have F1 := Lib.hid h1; clear h1 F0; have T1 : Hid True := trivial)
    | (go_at_call 102; have hx_ := T1; refine (apart0 A c _).mono ?_; clear hx_ T1; rintro e w2 ⟨rfl, hw_⟩; subst hw_; have T2 : Hid True := trivial)
    | (have hx_ := T2; refine s_byte1 F1.out rfl rfl rfl ?_; clear hx_ T2; intro w3 b3 h1 _; have F3 := Lib.hid h1; clear h1 F1; have T3 : Hid True := trivial)
    | (go_at_call 60; have hx_ := T3; refine (CS.out b3 _ F3.out.below (F3.out.mem (i := 0) rfl)).mono ?_; clear hx_ T3; rintro e w4 ⟨rfl, hb⟩; have F4 := Lib.hid (F3.out.later hb); clear hb F3; have T4 : Hid True := trivial)
    | (have hx_ := T4; refine s_store_b F4.out rfl rfl 1 rfl rfl l Ll.out rfl rfl ?_; clear hx_ T4; intro w5 h1; have F5 := Lib.hid h1; clear h1 F4))
  have hl := ret32 Ll.out (F5.out.mem (i := 1) rfl)
  exact bodyPost_ret (v := .tuple #[.agg (bvs l).toArray, .int .i64 0]) (by simp [results, Tryz.results116, asAddr, hl]) rfl ⟨rfl, F5.out.below⟩
set_option maxRecDepth 100000 in
set_option maxHeartbeats 1000000 in
theorem rootOf0 (Kt Kq : List Int) (A : Option Addr) (c : Nat) (w : World) (hw : NW w Kt Kq) : Calls Tryz.prog 80 #[.slice A 0 c] w (fun e w' => e = .returned (.tuple #[.agg (bvs (root0F Kt)).toArray, .int .i64 0]) ∧ Below w.heap.size w w') := by
  have F0 := Lib.hid (BK.start w)
  have T0 : Hid True := trivial
  have HW := Lib.hid hw
  obtain ⟨l, hl⟩ : ∃ l, l = root0F Kt := ⟨_, rfl⟩
  have Ll : Hid (l.length = 32) := by show _ = _; rw [hl]; exact sumF_len _ _
  have CR : Hid (∀ A c w', Below w.heap.size w w' → Calls Tryz.prog 116 #[.slice A 0 c] w' (fun e w2 => e = .returned (.tuple #[.agg (bvs l).toArray, .int .i64 0]) ∧ Below w'.heap.size w' w2)) := fun A c w' hb => by
    rw [hl]; exact root0 Kt Kq A c w' (hw.bel hb)
  rw [← hl]
  clear hw hl
  go_enter Tryz.func80, Tryz.ntmps80
  go_wp2_with (first
    | (have hx_ := T0; refine s_alloc F0.out rfl rfl zeroB32 rfl ?_; clear hx_ T0; intro w1 b1 h1 _; have F1 := Lib.hid h1; clear h1 F0; have T1 : Hid True := trivial)
    | (go_at_call 103; have hx_ := T1; refine (nodes0 A c _).mono ?_; clear hx_ T1; rintro e w2 ⟨⟨b2, rfl⟩, hb⟩; have F2 := Lib.hid (F1.out.later hb); clear hb F1; have T2 : Hid True := trivial)
    | (go_at_call 116; have hx_ := T2; refine (CR.out _ _ _ F2.out.below).mono ?_; clear hx_ T2; rintro e w4 ⟨rfl, hb⟩; have F4 := Lib.hid (F2.out.later hb); clear hb F2; have T4 : Hid True := trivial)
    | (have hx_ := T4; refine s_store_b F4.out rfl rfl 0 rfl rfl l Ll.out rfl rfl ?_; clear hx_ T4; intro w5 h1; have F5 := Lib.hid h1; clear h1 F4))
  have hl := ret32 Ll.out (F5.out.mem (i := 0) rfl)
  exact bodyPost_ret (v := .tuple #[.agg (bvs l).toArray, .int .i64 0]) (by simp [results, Tryz.results80, asAddr, hl]) rfl ⟨rfl, F5.out.below⟩
end Go.Proofs.YtbcpmnnlhdgbhaaGreatDoor

namespace Go.Proofs.YtbcpmnnlhdgbhaaGreatDoor
open Go.RowKit Go.Lib
/-- A new map. -/
def Tell.map0 : Tell := ⟨fun u => ∃ b, u = .map (some b), fun _ u w => ∀ b, u = .map (some b) → w.heap[b]? = some (.map #[] 0), fun u => match u with | .map (some b) => some b | _ => none⟩
theorem Tell.map0_good : Tell.map0.Good := ⟨⟨_, 0, rfl⟩, fun _ _ _ _ h hb b e => (hb.block b (lt_of_some (h b e))).trans (h b e)⟩
section
variable {l : List Oper} {w0 : World} {K : List (Nat × (World → Prop)) → List (Option Nat) → Act → Prop} {r : List (Oper × Option Tell)} {k : Nat} {fs : List (Nat × (World → Prop))} {bs : List (Option Nat)} {a : Act} {o : Oper}
theorem rg_map {t : TypeId} (ho : o.op = .makeMap t none) (hK : ∀ b, rgWalk Tryz.prog l w0 K r (k + 1) (fs ++ [(k, fun w => w.heap[b]? = some (.map #[] 0))]) (bs ++ [some b]) (a.put o.dst (.map (some b)))) : rgWalk Tryz.prog l w0 K ((o, some Tell.map0) :: r) k fs bs a := by
  refine ⟨fun w hb ht => ?_, fun v hv => ?_⟩
  · unfold okOp
    have h1 : (execOp a.eval o).run Tryz.prog w = .ok (.value (.map (some w.heap.size))) (w.alloc (.map #[] 0)) := by
      unfold execOp
      simp only [ho, Option.map_none, run_makeMap, Sem.run_bind, Sem.run_pure, Result.andThen_ok]
    rw [h1]
    refine ⟨⟨_, rfl⟩, fun b e => ?_, (Below.refl _ _).alloc (Nat.le_refl _) _, fun b e => ?_⟩
    · cases e
      exact heap_alloc_new w _
    · cases e
      exact ⟨Nat.le_refl _, lt_of_some (heap_alloc_new w _)⟩
  · obtain ⟨b, rfl⟩ := hv
    have h1 := hK b
    have e : (fun w : World => w.heap[b]? = some (.map #[] 0)) = Tell.map0.holds (argsOf l.toArray o a) (.map (some b)) := by
      funext w
      apply propext
      refine ⟨fun h b' e => ?_, fun h => h b rfl⟩
      cases e
      exact h
    rw [e] at h1
    exact h1
end
def genCs (s v : List UInt8) (m : Nat) : Array Value := (bvs s ++ (bvs v ++ [Value.map (some m)])).toArray
def genPl : List (Nat × Nat) := [(0, 32), (32, 32), (64, 1)]
set_option maxRecDepth 100000 in
theorem built_gen0 (ps : List (Nat × Value)) : (Tryz.prog).built 167 ps = Instr.fill (genPl.toArray[·]?) (bvs (List.replicate 32 0) ++ (bvs (List.replicate 32 0) ++ [Value.map none])).toArray ps := by kernel_rfl
theorem built_gen {m : Nat} {s v : List UInt8} (hs : s.length = 32) (hv : v.length = 32) : (Tryz.prog).built 167 [(0, .agg (bvs s).toArray), (1, .agg (bvs v).toArray), (2, .map (some m))] = some (genCs s v m) := by
  rw [built_gen0]
  obtain ⟨z32, hz⟩ : ∃ z, z = bvs (List.replicate 32 0) := ⟨_, rfl⟩
  rw [← hz]
  have lz : z32.length = 32 := by rw [hz, bvs_length, List.length_replicate]
  refine Eq.trans (Bd.fill_seg [] z32 (bvs s) (z32 ++ [Value.map none]) rfl rfl (by rw [bvs_length, hs]; rfl) (by rw [lz, bvs_length, hs])) ?_
  refine Eq.trans (Bd.fill_seg (bvs s) z32 (bvs v) [Value.map none] rfl rfl (by rw [bvs_length, bvs_length, hs, hv]; rfl) (by rw [lz, bvs_length, hv])) ?_
  refine Eq.trans (Bd.fill_seg (bvs s ++ bvs v) [Value.map none] [Value.map (some m)] [] (by simp) rfl (by rw [List.length_append, bvs_length, bvs_length, hs, hv]; rfl) rfl) ?_
  rw [Instr.fill]
  congr 1
  simp [genCs]
structure Gen0 (w : World) (B g gl : Nat) (s v : List UInt8) : Prop where
  g_ : B ≤ g
  gl_ : B ≤ gl
  row : w.heap[g]? = some (.cells (genCs s v gl) 167 (0, 0))
  labels : w.heap[gl]? = some (.map #[] 0)
theorem Gen0.below {w w' : World} {B g gl : Nat} {s v : List UInt8} (h : Gen0 w B g gl s v) (hb : Below w.heap.size w w') : Gen0 w' B g gl s v := ⟨h.g_, h.gl_, (hb.block _ (lt_of_some h.row)).trans h.row, (hb.block _ (lt_of_some h.labels)).trans h.labels⟩
def BeginPost (Kt : List Int) (secret : List UInt8) (w : World) (e : Ending) (w' : World) : Prop := ∃ g gl, e = .returned (.pointer (some ⟨g, 0, none⟩)) ∧ Gen0 w' w.heap.size g gl secret (seedF Kt [118, 114, 102] secret) ∧ Below w.heap.size w w'
set_option maxRecDepth 100000 in
set_option maxHeartbeats 2000000 in
theorem gbegin_any (Kt Kq : List Int) (secret : List UInt8) (hs : secret.length = 32) (w : World) (hw : NW w Kt Kq) : Calls Tryz.prog 72 #[.agg (bvs secret).toArray] w (BeginPost Kt secret w) := by
  have F0 := Lib.hid (BK.start w)
  have T0 : Hid True := trivial
  have HS := Lib.hid hs
  obtain ⟨l2, hl2⟩ : ∃ z, z = seedF Kt [118, 114, 102] secret := ⟨_, rfl⟩
  have L2 : l2.length = 32 := by rw [hl2]; exact seedF_len _ _ _
  have C2 : Hid (∀ w', Below w.heap.size w w' → Calls Tryz.prog 109 #[.agg (bvs secret).toArray] w' (fun e w2 => e = .returned (.agg (bvs l2).toArray) ∧ Below w'.heap.size w' w2)) := fun w' hb => by rw [hl2]; exact VrfSeed_any Kt Kq secret hs w' (hw.bel hb)
  have BG : Hid (∀ m, (Tryz.prog).built 167 [(0, .agg (bvs secret).toArray), (1, .agg (bvs l2).toArray), (2, .map (some m))] = some (genCs secret l2 m)) := fun m => built_gen hs L2
  have HP : Hid (∀ e w', (∃ g gl, e = .returned (.pointer (some ⟨g, 0, none⟩)) ∧ Gen0 w' w.heap.size g gl secret l2 ∧ Below w.heap.size w w') → BeginPost Kt secret w e w') := fun e w' h => by rw [hl2] at h; exact h
  clear hw hs hl2 L2
  go_enter Tryz.func72, Tryz.ntmps72
  go_wp2_with (have hx_ := T0; refine s_box F0.out rfl rfl rfl rfl ?_; clear hx_ T0; intro w1 b1 h1 _; have F1 := Lib.hid h1; clear h1 F0; have T1 : Hid True := trivial)
  refine wp_region_rg' 5 [none, none, some (Tell.is (.agg (bvs l2).toArray)), some (Tell.map0), none] (by kernel_rfl) rfl (by kernel_rfl) ⟨Tell.is_good _, Tell.map0_good, trivial⟩ ?_
  simp only [List.take_succ_cons, List.take_zero, List.zip_cons_cons, List.zip_nil_right]
  try simp only [Act.put]
  try simp only [List.setIfInBounds_toArray, List.set_cons_succ, List.set_cons_zero]
  refine rg_load _ _ rfl b1 0 rfl (bvs secret).toArray (fun w' hb _ => (F1.out.later hb).range 0 rfl) Tryz.underlying31 rfl (by rw [bvs_size, HS.out]; kernel_rfl) ?_
  try simp only [Act.put]
  try simp only [List.setIfInBounds_toArray, List.set_cons_succ, List.set_cons_zero]
  refine rg_load _ _ rfl b1 0 rfl (bvs secret).toArray (fun w' hb _ => (F1.out.later hb).range 0 rfl) Tryz.underlying31 rfl (by rw [bvs_size, HS.out]; kernel_rfl) ?_
  try simp only [Act.put]
  try simp only [List.setIfInBounds_toArray, List.set_cons_succ, List.set_cons_zero]
  refine rg_call 109 _ rfl (vs := [.agg (bvs secret).toArray]) rfl (fun _ _ => rfl) (v := .agg (bvs l2).toArray) (fun w' hb ht => C2.out w' (F1.out.later hb).below) ?_
  try simp only [Act.put]
  try simp only [List.setIfInBounds_toArray, List.set_cons_succ, List.set_cons_zero]
  refine rg_map rfl ?_
  intro m
  try simp only [Act.put]
  try simp only [List.setIfInBounds_toArray, List.set_cons_succ, List.set_cons_zero]
  refine rg_build rfl (ps := [(0, .agg (bvs secret).toArray), (1, .agg (bvs l2).toArray), (2, .map (some m))]) rfl (BG.out m) ?_
  try simp only [Act.put]
  try simp only [List.setIfInBounds_toArray, List.set_cons_succ, List.set_cons_zero]
  intro w2 hb hfs hnd hown
  have F2 := Lib.hid (F1.out.later hb)
  have hm : w2.heap[m]? = some (.map #[] 0) := hfs _ (List.mem_of_getElem? (i := 1) rfl)
  have HM := Lib.hid hm
  have hmo := (hown m (by simp)).1
  have HMO := Lib.hid (Nat.le_trans F1.out.below.size hmo)
  clear hb hfs hnd hown F1 hm hmo
  simp only [List.drop_succ_cons, List.drop_zero]
  try simp only [Act.put]
  try simp only [List.setIfInBounds_toArray, List.set_cons_succ, List.set_cons_zero]
  have T1 : Hid True := trivial
  go_wp2_with (have hx_ := T1; refine s_box F2.out rfl rfl rfl rfl ?_; clear hx_ T1; intro w3 b3 h1 hb; have M3 := Lib.hid ((hb.block m (lt_of_some HM.out)).trans HM.out); have F3 := Lib.hid h1; clear h1 F2 hb HM)
  go_ret
  exact HP.out _ _ ⟨b3, m, rfl, ⟨F3.out.own _ (List.mem_of_getElem? (i := 0) rfl), HMO.out, F3.out.mem (i := 0) rfl, M3.out⟩, F3.out.below⟩
end Go.Proofs.YtbcpmnnlhdgbhaaGreatDoor
