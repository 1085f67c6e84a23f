/- The texts DN3 DN4 DN5 Gd0 PO RgL of this work, merged by wip/merge.py. No conditions. -/
import Derived.Test.YtbcpmnnlhdgbhaaGreatDoorQG29
import Derived.Test.YtbcpmnnlhdgbhaaGreatDoorQG04
import Derived.Test.YtbcpmnnlhdgbhaaGreatDoorQG37
import Derived.Test.YtbcpmnnlhdgbhaaGreatDoorQG23
import Derived.Lib.ConvBytes
namespace Go.Proofs.YtbcpmnnlhdgbhaaGreatDoor
open Go.RowKit Go.Lib
set_option maxRecDepth 100000 in
set_option maxHeartbeats 2000000 in
theorem DNew_any (Kt Kq : List Int) (secret : List UInt8) (hs : secret.length = 32) (w : World) (hw : NW w Kt Kq) : Calls Tryz.prog 42 #[.agg (bvs secret).toArray] w (DirPost Kt Kq secret w) := by
  have F0 := Lib.hid (BK.start w)
  have T0 : Hid True := trivial
  have HS := Lib.hid hs
  obtain ⟨hl, hhl⟩ : ∃ z, z = root0F Kt := ⟨_, rfl⟩
  have Lh : Hid (hl.length = 32) := by show _ = _; rw [hhl]; exact sumF_len _ _
  obtain ⟨ks, hks⟩ : ∃ z, z = keysF Kt Kq secret 0 := ⟨_, rfl⟩
  have OK : Hid ks.ok := by show ks.ok; rw [hks]; exact keysF_ok _ _ _ _
  obtain ⟨r0, hr0⟩ : ∃ z, z = hashRoot hl := ⟨_, rfl⟩
  have OR0 : r0.ok := by rw [hr0]; exact hashRoot_ok Lh.out
  obtain ⟨r, hr⟩ : ∃ z, z = newRoot Kt Kq secret := ⟨_, rfl⟩
  have OR : Hid r.ok := by show r.ok; rw [hr]; exact newRoot_ok _ _ _
  have CR : Hid (∀ A c w', Below w.heap.size w w' → Calls Tryz.prog 80 #[.slice A 0 c] w' (fun e w2 => e = .returned (.tuple #[.agg (bvs hl).toArray, .int .i64 0]) ∧ Below w'.heap.size w' w2)) := fun A c w' hb => by rw [hhl]; exact rootOf0 Kt Kq A c w' (hw.bel hb)
  have CP : Hid (∀ w', Below w.heap.size w w' → Calls Tryz.prog 71 #[.agg (bvs secret).toArray, .int .u64 0] w' (fun e w2 => e = .returned (.agg ks.cs) ∧ Below w'.heap.size w' w2)) := fun w' hb => by rw [hks]; exact KPublic_any Kt Kq secret hs 0 w' (hw.bel hb)
  have CB : Hid (∀ w', Below w.heap.size w w' → Calls Tryz.prog 72 #[.agg (bvs secret).toArray] w' (BeginPost Kt secret w')) := fun w' hb => gbegin_any Kt Kq secret hs w' (hw.bel hb)
  have CS : Hid (∀ w', Below w.heap.size w w' → Calls Tryz.prog 81 #[.agg (bvs secret).toArray, .agg r0.cs] w' (fun e w2 => e = .returned (.agg r.cs) ∧ Below w'.heap.size w' w2)) := fun w' hb => by
    rw [hr, hr0, hhl]; rw [hr0, hhl] at OR0; exact SignRoot_any Kt Kq secret hs _ OR0 w' (hw.bel hb)
  have BD : Hid (∀ n m, (Tryz.prog).built 137 [(0, .agg ks.cs), (3, .pointer (some ⟨n, 0, none⟩)), (7, .map (some m))] = some (dirCs ks (.slice none 0 0) n m)) := fun n m => built_dir OK.out
  have BH : Hid ((Tryz.prog).built 34 [(4, .agg (bvs hl).toArray)] = some r0.cs) := by show _ = _; rw [hr0]; exact built_hash Lh.out
  have BS : Hid ((Tryz.prog).built 60 [(0, .agg r.cs)] = some (stepCs r)) := Lib.hid (built_step OR.out)
  have SI := stepInfo
  obtain ⟨ie, iz, hie, hiz, his⟩ := SI
  have HP : Hid (∀ e w', (∃ g gs gn gl gm, e = .returned (.pointer (some ⟨g, 0, none⟩)) ∧ Dir0 w' w.heap.size g gs gn gl gm ks r secret (seedF Kt [118, 114, 102] secret) ∧ Below w.heap.size w w') → DirPost Kt Kq secret w e w') := fun e w' h => by rw [hks, hr] at h; exact h
  have HIE := Lib.hid hie
  have HIZ := Lib.hid hiz
  have HIS := Lib.hid his
  clear hw hs hhl hks hr0 hr OR0 hie hiz his
  go_enter Tryz.func42, Tryz.ntmps42
  go_wp2_with (first
    | (have hx_ := T0; refine s_box F0.out rfl rfl rfl rfl ?_; clear hx_ T0; intro w1 b1 h1 _; have F1 := Lib.hid h1; clear h1 F0; have T1 : Hid True := trivial)
    | (go_at_call 80; have hx_ := T1; refine (CR.out _ _ _ F1.out.below).mono ?_; clear hx_ T1; rintro e w2 ⟨rfl, hb⟩; have F2 := Lib.hid (F1.out.later hb); clear hb F1; have T2 : Hid True := trivial)
    | (have hx_ := T2; refine s_alloc F2.out rfl rfl zeroB32 rfl ?_; clear hx_ T2; intro w3 b2 h1 _; have F3 := Lib.hid h1; clear h1 F2; have T3 : Hid True := trivial)
    | (have hx_ := T3; refine s_store_b F3.out rfl rfl 0 rfl rfl hl Lh.out rfl rfl ?_; clear hx_ T3; intro w4 h1; have F4 := Lib.hid h1; clear h1 F3; have T4 : Hid True := trivial))
  refine wp_region_rg' 6 [none, some (Tell.is (.agg ks.cs)), none, some (Tell.gen w.heap.size secret (seedF Kt [118, 114, 102] secret)), some (Tell.map0), none] (by kernel_rfl) rfl (by kernel_rfl) ⟨Tell.is_good _, Tell.gen_good _ _ _, Tell.map0_good, trivial⟩ ?_
  simp only [List.take_succ_cons, List.take_zero, List.zip_cons_cons, List.zip_nil_right]
  try simp only [Act.put]
  try simp only [List.setIfInBounds_toArray, List.set_cons_succ, List.set_cons_zero]
  refine rg_load _ _ rfl b1 0 rfl (bvs secret).toArray (fun w' hb _ => (F4.out.later hb).range 1 rfl) Tryz.underlying31 rfl (by rw [bvs_size, HS.out]; kernel_rfl) ?_
  try simp only [Act.put]
  try simp only [List.setIfInBounds_toArray, List.set_cons_succ, List.set_cons_zero]
  refine rg_call 71 _ rfl (vs := [.agg (bvs secret).toArray, .int .u64 0]) rfl (fun _ _ => rfl) (v := .agg ks.cs) (fun w' hb ht => CP.out w' (F4.out.later hb).below) ?_
  try simp only [Act.put]
  try simp only [List.setIfInBounds_toArray, List.set_cons_succ, List.set_cons_zero]
  refine rg_load _ _ rfl b1 0 rfl (bvs secret).toArray (fun w' hb _ => (F4.out.later hb).range 1 rfl) Tryz.underlying31 rfl (by rw [bvs_size, HS.out]; kernel_rfl) ?_
  try simp only [Act.put]
  try simp only [List.setIfInBounds_toArray, List.set_cons_succ, List.set_cons_zero]
  refine rg_begin F4.out.below.size Kt secret _ rfl (vs := [.agg (bvs secret).toArray]) rfl (fun w' hb => CB.out w' (F4.out.later hb).below) ?_
  intro gn
  try simp only [Act.put]
  try simp only [List.setIfInBounds_toArray, List.set_cons_succ, List.set_cons_zero]
  refine rg_map rfl ?_
  intro gm
  try simp only [Act.put]
  try simp only [List.setIfInBounds_toArray, List.set_cons_succ, List.set_cons_zero]
  refine rg_build rfl (ps := [(0, .agg ks.cs), (3, .pointer (some ⟨gn, 0, none⟩)), (7, .map (some gm))]) rfl (BD.out gn gm) ?_
  try simp only [Act.put]
  try simp only [List.setIfInBounds_toArray, List.set_cons_succ, List.set_cons_zero]
  intro w5 hb hfs hnd hown
  have F5 := Lib.hid (F4.out.later hb)
  obtain ⟨gl, hG⟩ := hfs (3, fun w' => ∃ gl, Gen0 w' w.heap.size gn gl secret (seedF Kt [118, 114, 102] secret)) (List.mem_of_getElem? (i := 1) rfl)
  have G1 := Lib.hid hG
  have hm : w5.heap[gm]? = some (.map #[] 0) := hfs _ (List.mem_of_getElem? (i := 2) rfl)
  have M1 := Lib.hid hm
  have MO := Lib.hid (Nat.le_trans F4.out.below.size (hown gm (by simp)).1)
  clear hb hfs hnd hown F4 hG hm
  simp only [List.drop_succ_cons, List.drop_zero]
  try simp only [Act.put]
  try simp only [List.setIfInBounds_toArray, List.set_cons_succ, List.set_cons_zero]
  have T4 : Hid True := trivial
  go_wp2_with (first
    | (have hx_ := T4; refine s_box F5.out rfl rfl rfl rfl ?_; clear hx_ T4; intro v1 b3 h1 hb; have G2 := Lib.hid (G1.out.below hb); have M2 := Lib.hid ((hb.block gm (lt_of_some M1.out)).trans M1.out); have F10 := Lib.hid h1; clear h1 F5 hb G1 M1; have T20 : Hid True := trivial)
    | (have hx_ := T20; refine s_load_b rfl rfl secret HS.out rfl (F10.out.lb 2 rfl) ?_; clear hx_ T20; have T21 : Hid True := trivial)
    | (have hx_ := T21; refine s_load_b rfl rfl hl Lh.out rfl (F10.out.lb 1 rfl) ?_; clear hx_ T21; have T22 : Hid True := trivial)
    | (have hx_ := T22; refine s_build rfl rfl (ps := [(4, .agg (bvs hl).toArray)]) rfl BH.out ?_; clear hx_ T22; have T23 : Hid True := trivial)
    | (go_at_call 81; have hx_ := T23; refine (CS.out _ F10.out.below).mono ?_; clear hx_ T23; rintro e v2 ⟨rfl, hb⟩; have G3 := Lib.hid (G2.out.below hb); have M3 := Lib.hid ((hb.block gm (lt_of_some M2.out)).trans M2.out); have F11 := Lib.hid (F10.out.later hb); clear hb F10 G2 M2; have T24 : Hid True := trivial)
    | (have hx_ := T24; refine s_build rfl rfl (ps := [(0, .agg r.cs)]) rfl BS.out ?_; clear hx_ T24; have T25 : Hid True := trivial)
    | (have hx_ := T25; refine s_slice1 F11.out rfl rfl rfl (stepCs_size OR.out) Tryz.underlying132 HIE.out HIZ.out HIS.out (by decide) ?_; clear hx_ T25; intro v3 b4 h1 hb; have G4 := Lib.hid (G3.out.below hb); have M4 := Lib.hid ((hb.block gm (lt_of_some M3.out)).trans M3.out); have F12 := Lib.hid h1; clear h1 hb F11 G3 M3; have F12 := F12; have T26 : Hid True := trivial)
    | (have hx_ := T26; refine s_setSteps F12.out rfl rfl 1 rfl 66 (by rw [dirCs_size OK.out]; decide) rfl rfl ?_; clear hx_ T26; intro v4 h1 hk; rw [put_steps OK.out] at h1; have F13 := Lib.hid h1; have HK := Lib.hid hk; clear h1 hk))
  have e0 := (HK.out gm (fun e => by have := F12.out.mem (i := 1) rfl; rw [← e, M4.out] at this; cases this)).trans M4.out
  go_ret
  exact HP.out _ _ ⟨b3, b4, gn, gl, gm, rfl, ⟨F13.out.own _ (List.mem_of_getElem? (i := 1) rfl), F13.out.own _ (List.mem_of_getElem? (i := 0) rfl), MO.out, F13.out.mem (i := 1) rfl, F13.out.mem (i := 0) rfl, ⟨G4.out.g_, G4.out.gl_, (HK.out gn (fun e => by have h1 := F12.out.mem (i := 1) rfl; rw [← e, G4.out.row] at h1; injection h1 with h1; injection h1 with _ h2; exact absurd (show (167 : Nat) = 137 from h2) (by decide))).trans G4.out.row, (HK.out gl (fun e => by have := F12.out.mem (i := 1) rfl; rw [← e, G4.out.labels] at this; cases this)).trans G4.out.labels⟩, e0⟩, F13.out.below⟩
end Go.Proofs.YtbcpmnnlhdgbhaaGreatDoor

namespace Go.Proofs.YtbcpmnnlhdgbhaaGreatDoor
open Go.RowKit Go.Lib
theorem Dir0.root {w : World} {B g gs gn gl gm : Nat} {k : KeyV} {r : RootV} {s v : List UInt8} (h : Dir0 w B g gs gn gl gm k r s v) : w.rangeAt gs 0 r.cs.toList := by
  refine rangeAt_part h.steps 0 _ fun j hj => ?_
  unfold stepCs
  rw [Nat.zero_add, List.getElem?_toArray, List.getElem?_append_left hj]
set_option maxRecDepth 100000 in
set_option maxHeartbeats 1000000 in
theorem DFirst_nil (w : World) : Calls Tryz.prog 49 #[.pointer none] w (KRet keyZ w) := by
  have F0 := Lib.hid (BK.start w)
  have T0 : Hid True := trivial
  have OK : keyZ.ok := ⟨rfl, rfl⟩
  have B0 : Hid ((Tryz.prog).built 38 [] = some keyZ.cs) := by show _ = _; kernel_rfl
  go_enter Tryz.func49, Tryz.ntmps49
  go_wp2_with (first
    | (have hx_ := T0; refine s_alloc F0.out rfl rfl zeroKey rfl ?_; clear hx_ T0; intro w1 b1 h1 _; have F1 := Lib.hid h1; clear h1 F0; have T1 : Hid True := trivial)
    | (have hx_ := T1; refine s_build rfl (parts := []) rfl (ps := []) rfl B0.out ?_; clear hx_ T1; have T2 : Hid True := trivial)
    | (have hx_ := T2; refine s_store F1.out rfl rfl 0 rfl rfl keyZ.cs rfl rfl (by kernel_rfl) (KeyV.cells _) ?_; clear hx_ T2; intro w3 h1; have F2 := Lib.hid h1; clear h1 F1))
  have hl := retKey OK (F2.out.mem (i := 0) rfl)
  exact bodyPost_ret (v := .agg keyZ.cs) (by simp [results, Tryz.results49, asAddr, Act.put, hl]) rfl ⟨rfl, F2.out.below⟩
set_option maxRecDepth 100000 in
set_option maxHeartbeats 1000000 in
theorem DRoot_nil (w : World) : Calls Tryz.prog 32 #[.pointer none] w (RootRet rootZ0 w) := by
  have F0 := Lib.hid (BK.start w)
  have T0 : Hid True := trivial
  have OR : rootZ0.ok := ⟨by decide, by decide, by decide, by decide, by decide, by decide, by decide⟩
  have B0 : Hid ((Tryz.prog).built 34 [] = some rootZ0.cs) := by show _ = _; kernel_rfl
  go_enter Tryz.func32, Tryz.ntmps32
  go_wp2_with (first
    | (have hx_ := T0; refine s_alloc F0.out rfl rfl zeroRoot rfl ?_; clear hx_ T0; intro w1 b1 h1 _; have F1 := Lib.hid h1; clear h1 F0; have T1 : Hid True := trivial)
    | (have hx_ := T1; refine s_build rfl (parts := []) rfl (ps := []) rfl B0.out ?_; clear hx_ T1; have T2 : Hid True := trivial)
    | (have hx_ := T2; refine s_store F1.out rfl rfl 0 rfl rfl rootZ0.cs rfl rfl (by kernel_rfl) (RootV.cells _) ?_; clear hx_ T2; intro w3 h1; have F2 := Lib.hid h1; clear h1 F1))
  have hl := retRoot OR (F2.out.mem (i := 0) rfl)
  exact bodyPost_ret (v := .agg rootZ0.cs) (by simp [results, Tryz.results32, asAddr, Act.put, hl]) rfl ⟨rfl, F2.out.below⟩
end Go.Proofs.YtbcpmnnlhdgbhaaGreatDoor

namespace Go.Proofs.YtbcpmnnlhdgbhaaGreatDoor
open Go.RowKit Go.Lib
section
variable {ops : Array Oper} {rest : List Oper} {o : Oper} {a : Act} {w0 w : World} {Q : Exit → Act → World → Prop} {bs : List (Nat × Array Value × TypeId)}
end
/-- What the zero of a type is, in cells. -/
def Zero (t : TypeId) (Z : Array Value) : Prop := (∀ w, (zeroValue t).run Tryz.prog w = .ok (.agg Z) w) ∧ (Tryz.prog).built t [] = some Z ∧ (Tryz.prog.info? t).map (·.size) = some Z.size ∧ Z.all (·.oneCell') = true
theorem cells_one {cs : Array Value} (h : cs.toList.all (·.oneCell') = true) : cs.all (·.oneCell') = true := by rw [← Array.all_toList]; exact h
def ZRet (t : TypeId) (vs : List Value) (w : World) (e : Ending) (w' : World) : Prop := ∃ Z, Zero t Z ∧ e = .returned (.tuple (.agg Z :: vs).toArray) ∧ Below w.heap.size w w'
theorem zRoot : ∃ Z, Zero 34 Z := ⟨((Tryz.prog).built 34 []).getD #[], fun w => by kernel_rfl, by kernel_rfl, by kernel_rfl, cells_one (by kernel_rfl)⟩
theorem zCert : ∃ Z, Zero 40 Z := ⟨((Tryz.prog).built 40 []).getD #[], fun w => by kernel_rfl, by kernel_rfl, by kernel_rfl, cells_one (by kernel_rfl)⟩
theorem zLookup : ∃ Z, Zero 48 Z := ⟨((Tryz.prog).built 48 []).getD #[], fun w => by kernel_rfl, by kernel_rfl, by kernel_rfl, cells_one (by kernel_rfl)⟩
theorem zHistory : ∃ Z, Zero 54 Z := ⟨((Tryz.prog).built 54 []).getD #[], fun w => by kernel_rfl, by kernel_rfl, by kernel_rfl, cells_one (by kernel_rfl)⟩
theorem zStep : ∃ Z, Zero 60 Z := ⟨((Tryz.prog).built 60 []).getD #[], fun w => by kernel_rfl, by kernel_rfl, by kernel_rfl, cells_one (by kernel_rfl)⟩
set_option maxRecDepth 100000 in
set_option maxHeartbeats 1000000 in
theorem DLookup_nil (s : ByteArray) (w : World) : Calls Tryz.prog 37 #[.pointer none, .string s] w (ZRet 48 [.int .i64 1] w) := by
  have F0 := Lib.hid (BK.start w)
  have T0 : Hid True := trivial
  have u0 := Tryz.underlying48
  obtain ⟨Z, hZ⟩ := zLookup
  have HZ := Lib.hid hZ
  have Z1 := Lib.hid hZ.1
  have B1 := Lib.hid hZ.2.1
  have I1 := Lib.hid hZ.2.2.1
  have O1 := Lib.hid hZ.2.2.2
  clear hZ
  go_enter Tryz.func37, Tryz.ntmps37
  go_wp2_with (first
    | (have hx_ := T0; refine s_alloc F0.out rfl rfl Z1.out rfl ?_; clear hx_ T0; intro w1 b1 h1 _; have F1 := Lib.hid h1; clear h1 F0; have T1 : Hid True := trivial)
    | (have hx_ := T1; refine s_build rfl (parts := []) rfl (ps := []) rfl B1.out ?_; clear hx_ T1; have T2 : Hid True := trivial)
    | (have hx_ := T2; refine s_store F1.out rfl rfl 0 rfl rfl Z rfl (rfl) (I1.out) (O1.out) ?_; clear hx_ T2; intro w2 h1; have F2 := Lib.hid h1; clear h1 F1; have T3 : Hid True := trivial))
  have hl := ret_row (F2.out.mem (i := 0) rfl) u0 rfl I1.out
  exact bodyPost_ret (v := .tuple #[.agg Z, .int .i64 1]) (by simp [results, Tryz.results37, asAddr, hl]) rfl ⟨Z, HZ.out, rfl, F2.out.below⟩
set_option maxRecDepth 100000 in
set_option maxHeartbeats 1000000 in
theorem DHistory_nil (s : ByteArray) (w : World) : Calls Tryz.prog 38 #[.pointer none, .string s] w (ZRet 54 [.int .i64 1] w) := by
  have F0 := Lib.hid (BK.start w)
  have T0 : Hid True := trivial
  have u0 := Tryz.underlying54
  obtain ⟨Z, hZ⟩ := zHistory
  have HZ := Lib.hid hZ
  have Z1 := Lib.hid hZ.1
  have B1 := Lib.hid hZ.2.1
  have I1 := Lib.hid hZ.2.2.1
  have O1 := Lib.hid hZ.2.2.2
  clear hZ
  go_enter Tryz.func38, Tryz.ntmps38
  go_wp2_with (first
    | (have hx_ := T0; refine s_alloc F0.out rfl rfl Z1.out rfl ?_; clear hx_ T0; intro w1 b1 h1 _; have F1 := Lib.hid h1; clear h1 F0; have T1 : Hid True := trivial)
    | (have hx_ := T1; refine s_build rfl (parts := []) rfl (ps := []) rfl B1.out ?_; clear hx_ T1; have T2 : Hid True := trivial)
    | (have hx_ := T2; refine s_store F1.out rfl rfl 0 rfl rfl Z rfl (rfl) (I1.out) (O1.out) ?_; clear hx_ T2; intro w2 h1; have F2 := Lib.hid h1; clear h1 F1; have T3 : Hid True := trivial))
  have hl := ret_row (F2.out.mem (i := 0) rfl) u0 rfl I1.out
  exact bodyPost_ret (v := .tuple #[.agg Z, .int .i64 1]) (by simp [results, Tryz.results38, asAddr, hl]) rfl ⟨Z, HZ.out, rfl, F2.out.below⟩
set_option maxRecDepth 100000 in
set_option maxHeartbeats 1000000 in
theorem DStep_nil (n : Int) (w : World) : Calls Tryz.prog 39 #[.pointer none, .int .u64 n] w (ZRet 60 [.int .i64 1] w) := by
  have F0 := Lib.hid (BK.start w)
  have T0 : Hid True := trivial
  have u0 := Tryz.underlying60
  obtain ⟨Z, hZ⟩ := zStep
  have HZ := Lib.hid hZ
  have Z1 := Lib.hid hZ.1
  have B1 := Lib.hid hZ.2.1
  have I1 := Lib.hid hZ.2.2.1
  have O1 := Lib.hid hZ.2.2.2
  clear hZ
  go_enter Tryz.func39, Tryz.ntmps39
  go_wp2_with (first
    | (have hx_ := T0; refine s_alloc F0.out rfl rfl Z1.out rfl ?_; clear hx_ T0; intro w1 b1 h1 _; have F1 := Lib.hid h1; clear h1 F0; have T1 : Hid True := trivial)
    | (have hx_ := T1; refine s_build rfl (parts := []) rfl (ps := []) rfl B1.out ?_; clear hx_ T1; have T2 : Hid True := trivial)
    | (have hx_ := T2; refine s_store F1.out rfl rfl 0 rfl rfl Z rfl (rfl) (I1.out) (O1.out) ?_; clear hx_ T2; intro w2 h1; have F2 := Lib.hid h1; clear h1 F1; have T3 : Hid True := trivial))
  have hl := ret_row (F2.out.mem (i := 0) rfl) u0 rfl I1.out
  exact bodyPost_ret (v := .tuple #[.agg Z, .int .i64 1]) (by simp [results, Tryz.results39, asAddr, hl]) rfl ⟨Z, HZ.out, rfl, F2.out.below⟩
set_option maxRecDepth 100000 in
set_option maxHeartbeats 1000000 in
theorem DDevices_nil (s : ByteArray) (w : World) : Calls Tryz.prog 40 #[.pointer none, .string s] w (fun e w' => e = .returned (.tuple #[.slice none 0 0, .int .i64 0]) ∧ w' = w) := by
  go_enter Tryz.func40, Tryz.ntmps40
  go_wp2
  go_ret2
  exact ⟨rfl, rfl⟩
set_option maxRecDepth 100000 in
set_option maxHeartbeats 1000000 in
theorem DCerts_nil (w : World) : Calls Tryz.prog 48 #[.pointer none] w (fun e w' => e = .returned (.slice none 0 0) ∧ w' = w) := by
  go_enter Tryz.func48, Tryz.ntmps48
  go_wp2
  go_ret
  exact ⟨rfl, rfl⟩
set_option maxRecDepth 100000 in
set_option maxHeartbeats 1000000 in
theorem DMoving_nil (w : World) : Calls Tryz.prog 27 #[.pointer none] w (fun e w' => e = .returned (.int .i64 0) ∧ w' = w) := by
  go_enter Tryz.func27, Tryz.ntmps27
  go_wp2
  go_ret
  exact ⟨rfl, rfl⟩
end Go.Proofs.YtbcpmnnlhdgbhaaGreatDoor

namespace Go.Proofs.YtbcpmnnlhdgbhaaGreatDoor
open Go.RowKit Go.Lib
section
variable {ops : Array Oper} {rest : List Oper} {o : Oper} {a : Act} {w : World} {Q : Exit → Act → World → Prop}
theorem wpList_want {P : Program} (hw : Region.wanted o (yielded ops a.tmps) = true)
    (h : ∀ K : Act → World → Prop, (∀ a w, wpList P ops Q rest a w → K a w) → o.wp P a w K Q) : wpList P ops Q (o :: rest) a w := by
  unfold wpList
  rw [if_pos hw]
  exact .inl (h _ fun _ _ h => h)
theorem s_buildW (hw : Region.wanted o (yielded ops a.tmps) = true) {t : TypeId} {parts : List (Nat × Operand)} (ho : o.op = .build t parts.toArray) {ps : List (Nat × Value)} (hx : parts.map (fun p => (p.1, a.eval p.2)) = ps) {cells : Array Value} (hb : (Tryz.prog).built t ps = some cells)
    (h : wpList Tryz.prog ops Q rest (a.put o.dst (.agg cells)) w) : wpList Tryz.prog ops Q (o :: rest) a w := by
  have e : (parts.toArray.map fun x => match x with | (i, x) => (i, a.eval x)).toList = ps := by rw [List.map_toArray, ← hx]
  refine wpList_want hw fun K hK => wp_build _ _ ho (by rw [e, hb]; rfl) ?_
  rw [e, hb]
  exact hK _ _ h
theorem s_sameW (hw : Region.wanted o (yielded ops a.tmps) = true) {t t2 : TypeId} {x y : Operand} (ho : o.op = .binOp .eql t x y t2) (cs : Array Value) (hx : a.eval x = .agg cs) (hy : a.eval y = .agg cs)
    (hgt : (Tryz.prog).eqGuardType (Tryz.prog).depth t = false) (he : (binOp .eql t (.agg cs) (.agg cs)).run Tryz.prog w = .ok (.bool true) w) (h : wpList Tryz.prog ops Q rest (a.put o.dst (.bool true)) w) : wpList Tryz.prog ops Q (o :: rest) a w := by
  refine wpList_want hw fun _ hK => ?_
  have h2 := hK _ _ h
  unfold Oper.wp execOp
  simp only [ho, hx, hy, Sem.run_bind, run_eqGuard_agg w _ t x y cs cs hgt, Result.andThen_ok, he]
  exact h2
end
end Go.Proofs.YtbcpmnnlhdgbhaaGreatDoor

namespace Go.Proofs.YtbcpmnnlhdgbhaaGreatDoor
open Go.RowKit Go.Lib
section
variable {ops : Array Oper} {rest : List Oper} {o : Oper} {a : Act} {w0 w : World} {Q : Exit → Act → World → Prop} {bs : List (Nat × Array Value × TypeId)}
/-- A new block, and that it is new. -/
theorem s_boxN (F : BK w0 w bs) (hg : o.guard = none) {ty : TypeId} {x : Operand} (ho : o.op = .box ty x) {cs : Array Value} (hx : a.eval x = .agg cs) {s : Nat} (hd : o.dst = some s)
    (h : ∀ w' b, BK w0 w' ((b, cs, ty) :: bs) → Below w.heap.size w w' → w.heap.size ≤ b → wpList Tryz.prog ops Q rest (a.put (some s) (.pointer (some ⟨b, 0, none⟩))) w') : wpList Tryz.prog ops Q (o :: rest) a w := by
  refine wpList_plain hg fun _ hK => ?_
  unfold Oper.wp execOp
  have h1 : (Instr.box ty (.agg cs)).run Tryz.prog w = .ok (.pointer (some ⟨w.heap.size, 0, none⟩)) (w.alloc (.cells cs ty)) := rfl
  simp only [ho, hx, h1, Sem.run_bind, Sem.run_pure, Result.andThen_ok]
  refine hK _ _ ?_
  rw [hd]
  exact h _ _ (F.alloc rfl cs ty) ((Below.refl _ _).alloc (Nat.le_refl _) _) (Nat.le_refl _)
end
/-- A publisher in memory: its directory, its store, its queue and the number of the next update. -/
def PubAt (w : World) (gp g gs : Nat) (Q : Value) (n : Nat) : Prop := w.heap[gp]? = some (.cells #[.pointer (some ⟨g, 0, none⟩), .pointer (some ⟨gs, 0, none⟩), Q, .int .u64 (n : Int), .int .u64 0] 88 (0, 0))
/-- A publisher that nothing has happened to. -/
structure PubS (w : World) (base : Nat) (own : Nat → Prop) (N gd gl gs m gp g : Nat) : Prop where
  log : LG w base own gd gl (dst (List.replicate N zero64) false 0) ((1 : Nat) : Int) []
  st : StoreAt w gs gl m
  mp : w.heap[m]? = some (.map #[] 0)
  pub : PubAt w gp g gs (.slice none 0 0) 0
  ngs : ¬ own gs
  nm : ¬ own m
  ngp : ¬ own gp
theorem PubS.below {w w' : World} {base N gd gl gs m gp g : Nat} {own : Nat → Prop} (h : PubS w base own N gd gl gs m gp g) (hb : Below w.heap.size w w') : PubS w' base own N gd gl gs m gp g :=
  ⟨h.log.below hb, heap_below h.st hb, heap_below h.mp hb, heap_below h.pub hb, h.ngs, h.nm, h.ngp⟩
def POpenP (Kt Kq : List Int) (secret : List UInt8) (base N gd : Nat) (od : Nat → Prop) (w : World) (e : Ending) (w' : World) : Prop :=
  ∃ own gl gs m gp g gss gn gl2 gm v B, e = .returned (.tuple #[.pointer (some ⟨gp, 0, none⟩), .int .i64 0]) ∧ PubS w' base own N gd gl gs m gp g ∧ Dir0 w' B g gss gn gl2 gm (keysF Kt Kq secret 0) (newRoot Kt Kq secret) secret v ∧ Below w.heap.size w w' ∧
    w.heap.size ≤ gs ∧ w.heap.size ≤ m ∧ w.heap.size ≤ gp ∧ ∀ k, own k → od k ∨ w.heap.size ≤ k
theorem built_pub (g gs : Nat) : (Tryz.prog).built 88 [(0, .pointer (some ⟨g, 0, none⟩)), (1, .pointer (some ⟨gs, 0, none⟩))] = some #[.pointer (some ⟨g, 0, none⟩), .pointer (some ⟨gs, 0, none⟩), .slice none 0 0, .int .u64 0, .int .u64 0] := by kernel_rfl
theorem pub_made {base N gd gl gs m gp g : Nat} {od own : Nat → Prop} {w1 w2 w3 w4 : World} (h : LG w2 base own gd gl (dst (List.replicate N zero64) false 0) ((1 : Nat) : Int) [] ∧ StoreAt w2 gs gl m ∧ w2.heap[m]? = some (.map #[] 0) ∧ Below w1.heap.size w1 w2 ∧ w1.heap.size ≤ gs ∧ w1.heap.size ≤ m ∧ gs ≠ m ∧ ¬ own gs ∧ ¬ own m ∧ ∀ k, own k → od k ∨ w1.heap.size ≤ k)
    (hb3 : Below w2.heap.size w2 w3) (hb4 : Below w3.heap.size w3 w4) (hgp : w3.heap.size ≤ gp) (hr : w4.heap[gp]? = some (.cells #[.pointer (some ⟨g, 0, none⟩), .pointer (some ⟨gs, 0, none⟩), .slice none 0 0, .int .u64 0, .int .u64 0] 88 (0, 0))) : PubS w4 base own N gd gl gs m gp g := by
  have hb : Below w2.heap.size w2 w4 := hb3.trans (hb4.mono hb3.size)
  exact ⟨h.1.below hb, heap_below h.2.1 hb, heap_below h.2.2.1 hb, hr, h.2.2.2.2.2.2.2.1, h.2.2.2.2.2.2.2.2.1, fun e => Nat.lt_irrefl _ (Nat.lt_of_lt_of_le (h.1.lt e) (Nat.le_trans hb3.size hgp))⟩
set_option maxRecDepth 100000 in
set_option maxHeartbeats 2000000 in
theorem POpen_any (Kt Kq : List Int) (secret : List UInt8) (hs : secret.length = 32) {w : World} {base gd N : Nat} {od : Nat → Prop} {S P : Value} (h : Dsk w base od gd (dst (List.replicate N zero64) false 0) S P) (hb : base ≤ w.heap.size) (hN : 64 ≤ N) (hw : NW w Kt Kq) :
    Calls Tryz.prog 12 #[.pointer (some ⟨gd, 0, none⟩), .agg (bvs secret).toArray] w (POpenP Kt Kq secret base N gd od w) := by
  have F0 := Lib.hid (BK.start w)
  have T0 : Hid True := trivial
  have HS := Lib.hid hs
  have CO : Hid (∀ w', Below w.heap.size w w' → Calls Tryz.prog 41 #[.pointer (some ⟨gd, 0, none⟩)] w' (OpenS base od gd (dst (List.replicate N zero64) false 0) w')) := fun w' hb' => OpenS_any (h.below hb') (Nat.le_trans hb hb'.size) Kt hN (hw.1.bel hb')
  have CD : Hid (∀ w', Below w.heap.size w w' → Calls Tryz.prog 42 #[.agg (bvs secret).toArray] w' (DirPost Kt Kq secret w')) := fun w' hb' => DNew_any Kt Kq secret hs w' (hw.bel hb')
  have BP : Hid (∀ g gs, (Tryz.prog).built 88 [(0, .pointer (some ⟨g, 0, none⟩)), (1, .pointer (some ⟨gs, 0, none⟩))] = some #[.pointer (some ⟨g, 0, none⟩), .pointer (some ⟨gs, 0, none⟩), .slice none 0 0, .int .u64 0, .int .u64 0]) := built_pub
  clear h hb hN hw hs
  go_enter Tryz.func12, Tryz.ntmps12
  go_wp2_with (first
    | (have hx_ := T0; refine s_box F0.out rfl rfl rfl rfl ?_; clear hx_ T0; intro w1 b1 h1 _; have F1 := Lib.hid h1; clear h1 F0; have T1 : Hid True := trivial)
    | (go_at_call 41; have hx_ := T1; refine (CO.out _ F1.out.below).mono ?_; clear hx_ T1; rintro e w2 ⟨gs, gl, m, own, rfl, hO⟩; have H2 := Lib.hid hO; have L1 := Lib.hid F1.out.below.size; have F2 := Lib.hid (F1.out.later hO.2.2.2.1); clear hO F1 CO; have T2 : Hid True := trivial)
    | (have hx_ := T2; refine s_load_b rfl rfl secret HS.out rfl (F2.out.lb 0 rfl) ?_; clear hx_ T2; have T3 : Hid True := trivial)
    | (go_at_call 42; have hx_ := T3; refine (CD.out _ F2.out.below).mono ?_; clear hx_ T3; rintro e w3 ⟨g, gss, gn, gl2, gm, rfl, hd, hb3⟩; have D3 := Lib.hid hd; have B3 := Lib.hid hb3; have F3 := Lib.hid (F2.out.later hb3); clear hd hb3 F2 CD; have T4 : Hid True := trivial)
    | (have hx_ := T4; refine s_build rfl rfl (ps := [(0, .pointer (some ⟨g, 0, none⟩)), (1, .pointer (some ⟨gs, 0, none⟩))]) rfl (BP.out g gs) ?_; clear hx_ T4; have T5 : Hid True := trivial)
    | (have hx_ := T5; refine s_boxN F3.out rfl rfl rfl rfl ?_; clear hx_ T5; intro w4 gp h1 hb4 hgp; have P4 := Lib.hid (pub_made H2.out B3.out hb4 hgp (h1.mem (i := 0) rfl)); have D4 := Lib.hid (D3.out.below hb4); have F4 := Lib.hid h1; have G4 := Lib.hid (Nat.le_trans (Nat.le_trans L1.out H2.out.2.2.2.1.size) (Nat.le_trans B3.out.size hgp)); clear h1 hb4 hgp F3 D3 B3; have T6 : Hid True := trivial)
    | (go_at_call 43; have hx_ := T6; refine (Keys_none gs gl m _ _ _ P4.out.st P4.out.mp).mono ?_; clear hx_ T6; rintro e w5 ⟨rfl, hb5⟩; have P5 := Lib.hid (P4.out.below hb5); have D5 := Lib.hid (D4.out.below hb5); have F5 := Lib.hid (F4.out.later hb5); clear hb5 P4 D4 F4; have T7 : Hid True := trivial))
  go_loopw [37] (fun i wr => i = .int .i64 0 ∧ Hid (wr = w5)) (fun _ _ => 0)
  case atStart => exact ⟨rfl, rfl⟩
  case round =>
    obtain ⟨rfl, hwr⟩ := hrel
    have hwr' := hwr.out
    subst hwr'
    go_wp2_with (go_at_call 43; refine (Keys_none gs gl m _ _ _ P5.out.st P5.out.mp).mono ?_; rintro e w6 ⟨rfl, hb6⟩; have P6 := Lib.hid (P5.out.below hb6); have D6 := Lib.hid (D5.out.below hb6); have F6 := Lib.hid (F5.out.later hb6); clear hb6 P5 D5 F5)
    go_loopw [61] (fun i wr => i = .int .i64 0 ∧ Hid (wr = w6)) (fun _ _ => 0)
    case atStart => exact ⟨rfl, rfl⟩
    case round =>
      obtain ⟨rfl, hwr⟩ := hrel
      have hwr' := hwr.out
      subst hwr'
      go_wp2
      go_ret2
      exact ⟨own, gl, gs, m, gp, g, gss, gn, gl2, gm, _, _, rfl, P6.out, D6.out, F6.out.below, Nat.le_trans L1.out H2.out.2.2.2.2.1, Nat.le_trans L1.out H2.out.2.2.2.2.2.1, G4.out, fun k hk => (H2.out.2.2.2.2.2.2.2.2.2 k hk).imp id (fun h => Nat.le_trans L1.out h)⟩
end Go.Proofs.YtbcpmnnlhdgbhaaGreatDoor

namespace Go.Proofs.YtbcpmnnlhdgbhaaGreatDoor
open Go.RowKit
section
variable {P : Program} {l : List Oper} {w0 : World} {K : List (Nat × (World → Prop)) → List (Option Nat) → Act → Prop} {r : List (Oper × Option Tell)} {k : Nat} {fs : List (Nat × (World → Prop))} {bs : List (Option Nat)} {a : Act} {o : Oper}
theorem rg_load1 (ty : TypeId) (x : Operand) (ho : o.op = .load ty x) (b off : Nat) (hx : a.eval x = .pointer (some ⟨b, off, none⟩)) (v : Value) (hc : ∀ w, Below w0.heap.size w0 w → told l k fs w → w.cell? ⟨b, off, none⟩ = some v)
    (hA : ∀ w, (isAgg ty).run P w = .ok false w) (hK : rgWalk P l w0 K r (k + 1) fs bs (a.put o.dst v)) : rgWalk P l w0 K ((o, none) :: r) k fs bs a := by
  refine ⟨v, fun w hb ht => ?_, hK⟩
  unfold execOp
  simp only [ho, hx, Instr.loadAt, Instr.sureAddr, loadVar, Sem.run_bind, Sem.run_pure, Result.andThen_ok, hA w, Bool.false_eq_true, if_false, run_load, hc w hb ht]
theorem rg_nil {x : Operand} (ho : o.op = .nilCheck x) {p : Addr} (hx : a.eval x = .pointer (some p)) (hK : rgWalk P l w0 K r (k + 1) fs bs (a.put o.dst (.pointer (some p)))) : rgWalk P l w0 K ((o, none) :: r) k fs bs a := by
  refine rg_v (v := .pointer (some p)) (fun w => ?_) hK
  unfold execOp
  simp only [ho, hx]
  rfl
/-- A row of one struct that is at hand. -/
def aggOf : List Value → Array Value
  | [.agg c] => c
  | _ => #[]
theorem rg_row1 {ty : TypeId} {x : Nat} (ho : o.op = .buildSlice ty 1 #[(0, .tmp x)]) (hg : o.guard = none) {c : Array Value} (hx : a.eval (.tmp x) = .agg c) {e : TypeId} (hrun : ∀ w, (Instr.buildSlice ty 1 #[(0, .agg c)]).run P w = .ok (.slice (some ⟨w.heap.size, 0, none⟩) 1 1) (w.alloc (.cells c e)))
    (hK : ∀ b, rgWalk P l w0 K r (k + 1) (fs ++ [(k, fun w => w.heap[b]? = some (.cells c e (0, 0)))]) (bs ++ [some b]) (a.put o.dst (.slice (some ⟨b, 0, none⟩) 1 1))) : rgWalk P l w0 K ((o, some (Tell.row 1 aggOf e)) :: r) k fs bs a :=
  rg_row ho aggOf (fun w => by simp only [List.map_toArray, List.map_cons, List.map_nil, hx]; exact hrun w) (by
    have e : o.looksAt l.toArray = [x] := by unfold Oper.looksAt; rw [ho, hg]; rfl
    unfold argsOf
    rw [e, List.map_cons, List.map_nil]
    simp only [Act.eval] at hx
    rw [hx]
    rfl) hK
end
/-- Bytes in a new block. -/
def Tell.fresh (l : List UInt8) : Tell := ⟨fun u => ∃ b c, u = .slice (some ⟨b, 0, none⟩) l.length c ∧ l.length ≤ c, fun _ u w => ∀ b c, u = .slice (some ⟨b, 0, none⟩) l.length c → Reads w w.heap.size 1 (some ⟨b, 0, none⟩) l.length (bvs l), fun u => match u with | .slice (some p) _ _ => some p.block | _ => none⟩
theorem Tell.fresh_good (l : List UInt8) : (Tell.fresh l).Good := ⟨⟨_, 0, _, rfl, Nat.le_refl _⟩, fun _ _ _ _ h hb b c e => ((h b c e).below hb).more hb.size⟩
theorem bytes_fresh (w : World) (l : List UInt8) : Below w.heap.size w (Lib.bytesWorld w 5 ⟨l.toArray⟩) := by
  refine ⟨?_, ?_, ?_, by rw [Lib.bytesWorld_size]; omega, fun k hk => Lib.bytesWorld_at_old w _ _ k hk⟩
  all_goals (unfold Lib.bytesWorld World.freeze; rw [if_neg (by decide)]; rfl)
theorem bytes_fresh_reads (w : World) (l : List UInt8) : Reads (Lib.bytesWorld w 5 ⟨l.toArray⟩) (w.heap.size + 1) 1 (some ⟨w.heap.size, 0, none⟩) l.length (bvs l) := by
  have hn : (ByteArray.mk l.toArray).size = l.length := by simp [ByteArray.size]
  refine ⟨by simp [bvs_length], fun _ => ⟨_, rfl, by simp, fun j u hu => ?_⟩⟩
  have hj : j < l.length := by
    have := (List.getElem?_eq_some_iff.1 hu).1
    simpa [bvs_length] using this
  have hadd : (⟨w.heap.size, 0, none⟩ : Addr).add j = ⟨w.heap.size, j, none⟩ := by unfold Addr.add; split <;> simp_all
  rw [hadd, Lib.bytesWorld_cell w _ _ j (by rw [hn]; exact hj)]
  simp [bvs, hj] at hu
  simp [hj, ← hu, bv]
section
variable {l : List Oper} {w0 : World} {K : List (Nat × (World → Prop)) → List (Option Nat) → Act → Prop} {r : List (Oper × Option Tell)} {k : Nat} {fs : List (Nat × (World → Prop))} {bs : List (Option Nat)} {a : Act} {o : Oper}
theorem rg_conv {x : Operand} {s : List UInt8} (ho : o.op = .convert 9 96 x) (hx : a.eval x = .string ⟨s.toArray⟩)
    (hK : ∀ b c, s.length ≤ c → rgWalk Tryz.prog l w0 K r (k + 1) (fs ++ [(k, fun w => Reads w w.heap.size 1 (some ⟨b, 0, none⟩) s.length (bvs s))]) (bs ++ [some b]) (a.put o.dst (.slice (some ⟨b, 0, none⟩) s.length c))) : rgWalk Tryz.prog l w0 K ((o, some (Tell.fresh s)) :: r) k fs bs a := by
  refine ⟨fun w hb ht => ?_, fun v hv => ?_⟩
  · have hn : (ByteArray.mk s.toArray).size = s.length := by simp [ByteArray.size]
    have hcv := Lib.run_convert_string_bytes (P := Tryz.prog) w 9 96 5 ⟨s.toArray⟩ Tryz.underlying9 Tryz.underlying96 Tryz.underlying5
    rw [hn] at hcv
    unfold okOp
    have h1 : (execOp a.eval o).run Tryz.prog w = .ok (.value (.slice (some ⟨w.heap.size, 0, none⟩) s.length (grownCap w s.length 0 5))) (Lib.bytesWorld w 5 ⟨s.toArray⟩) := by
      unfold execOp
      simp only [ho, hx, hcv, Sem.run_bind, Sem.run_pure, Result.andThen_ok]
    rw [h1]
    refine ⟨⟨_, _, rfl, grownCap_ge w s.length 0 5⟩, fun b c e => ?_, bytes_fresh w s, fun b e => ?_⟩
    · cases e
      exact (bytes_fresh_reads w s).more (by rw [Lib.bytesWorld_size]; exact Nat.le_refl _)
    · cases e
      exact ⟨Nat.le_refl _, by rw [Lib.bytesWorld_size]; exact Nat.lt_succ_self _⟩
  · obtain ⟨b, c, rfl, hle⟩ := hv
    have h1 := hK b c hle
    have e : (fun w : World => Reads w w.heap.size 1 (some ⟨b, 0, none⟩) s.length (bvs s)) = (Tell.fresh s).holds (argsOf l.toArray o a) (.slice (some ⟨b, 0, none⟩) s.length c) := by
      funext w
      apply propext
      refine ⟨fun h b' c' e => ?_, fun h => h b c rfl⟩
      cases e
      exact h
    rw [e] at h1
    exact h1
end
end Go.Proofs.YtbcpmnnlhdgbhaaGreatDoor
