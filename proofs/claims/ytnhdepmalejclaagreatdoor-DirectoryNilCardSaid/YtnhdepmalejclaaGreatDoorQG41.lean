/- The texts KE2 KE3 DN3 DN4 EV Eq64r EqK DN5 of this work, merged by wip/merge.py. No conditions. -/
import Derived.Test.YtnhdepmalejclaaGreatDoorQG40
import Derived.Test.YtnhdepmalejclaaGreatDoorQG30
import Derived.Test.YtnhdepmalejclaaGreatDoorQG04
import Derived.Test.YtnhdepmalejclaaGreatDoorQG19
import Derived.Test.YtnhdepmalejclaaGreatDoorQG29
import Derived.Test.YtnhdepmalejclaaGreatDoorQG35
namespace Go.Proofs.YtnhdepmalejclaaGreatDoor
open Go.RowKit
def ks1 : List UInt8 := [244, 136, 16, 96, 60, 239, 156, 99, 150, 53, 155, 222, 71, 107, 77, 191, 170, 62, 242, 31, 205, 90, 146, 191, 150, 103, 23, 3, 204, 51, 81, 214]
def ks2 : List UInt8 := [49, 140, 238, 40, 118, 255, 4, 91, 143, 218, 233, 164, 36, 35, 162, 226, 241, 107, 213, 147, 83, 86, 236, 244, 69, 33, 218, 125, 16, 179, 5, 242]
def kh1 : List UInt8 := [98, 206, 174, 44, 15, 5, 139, 209, 100, 22, 39, 227, 92, 133, 207, 52, 52, 211, 198, 190, 79, 251, 62, 3, 210, 67, 145, 73, 102, 83, 193, 17, 6, 16, 230, 33, 150, 212, 132, 209, 255, 151, 210, 49, 42, 80, 61, 159, 55, 229, 78, 10, 112, 133, 83, 104, 152, 213, 78, 157, 226, 240, 101, 161]
def kh2 : List UInt8 := [240, 80, 231, 71, 238, 136, 107, 35, 221, 34, 22, 181, 223, 238, 19, 202, 37, 25, 171, 25, 106, 230, 97, 110, 147, 122, 180, 205, 61, 30, 225, 21, 54, 90, 33, 17, 249, 43, 231, 7, 215, 75, 24, 88, 4, 14, 219, 22, 125, 185, 177, 43, 189, 66, 249, 213, 129, 63, 227, 56, 213, 101, 49, 58]
def kn1 : List UInt8 := [96, 206, 174, 44, 15, 5, 139, 209, 100, 22, 39, 227, 92, 133, 207, 52, 52, 211, 198, 190, 79, 251, 62, 3, 210, 67, 145, 73, 102, 83, 193, 81]
def kn2 : List UInt8 := [240, 80, 231, 71, 238, 136, 107, 35, 221, 34, 22, 181, 223, 238, 19, 202, 37, 25, 171, 25, 106, 230, 97, 110, 147, 122, 180, 205, 61, 30, 225, 85]
def kp1 : List UInt8 := [102, 50, 246, 15, 235, 247, 224, 211, 15, 15, 99, 110, 184, 100, 13, 184, 12, 186, 76, 198, 168, 39, 243, 97, 187, 191, 46, 95, 251, 100, 139, 58]
def kp2 : List UInt8 := [67, 138, 237, 208, 75, 63, 164, 152, 212, 14, 102, 91, 181, 168, 167, 1, 125, 78, 2, 223, 106, 135, 137, 135, 7, 253, 237, 81, 100, 196, 38, 138]
def kroot0 : List UInt8 := [110, 52, 11, 156, 255, 179, 122, 152, 156, 165, 68, 230, 187, 120, 10, 44, 120, 144, 29, 63, 179, 55, 56, 118, 133, 17, 163, 6, 23, 175, 160, 29]
def kmsg : List UInt8 := [0, 0, 0, 7, 0, 0, 0, 4, 114, 111, 111, 116, 0, 0, 0, 8, 0, 0, 0, 0, 0, 0, 0, 0, 0, 0, 0, 8, 0, 0, 0, 0, 0, 0, 0, 0, 0, 0, 0, 8, 0, 0, 0, 0, 0, 0, 0, 0, 0, 0, 0, 32, 0, 0, 0, 0, 0, 0, 0, 0, 0, 0, 0, 0, 0, 0, 0, 0, 0, 0, 0, 0, 0, 0, 0, 0, 0, 0, 0, 0, 0, 0, 0, 0, 0, 0, 0, 32, 110, 52, 11, 156, 255, 179, 122, 152, 156, 165, 68, 230, 187, 120, 10, 44, 120, 144, 29, 63, 179, 55, 56, 118, 133, 17, 163, 6, 23, 175, 160, 29, 0, 0, 0, 32, 0, 0, 0, 0, 0, 0, 0, 0, 0, 0, 0, 0, 0, 0, 0, 0, 0, 0, 0, 0, 0, 0, 0, 0, 0, 0, 0, 0, 0, 0, 0, 0]
def kr512 : List UInt8 := [255, 1, 13, 59, 88, 79, 184, 108, 53, 1, 209, 59, 186, 232, 82, 25, 198, 184, 75, 250, 162, 230, 170, 244, 36, 84, 2, 208, 244, 156, 58, 195, 135, 230, 123, 32, 49, 222, 243, 161, 220, 210, 164, 115, 197, 121, 238, 151, 19, 249, 143, 150, 199, 89, 55, 39, 97, 201, 177, 117, 44, 100, 114, 34]
def kr : List UInt8 := [81, 240, 139, 230, 155, 252, 181, 156, 98, 129, 139, 231, 36, 190, 235, 51, 58, 149, 118, 43, 199, 2, 70, 83, 94, 34, 91, 33, 117, 65, 4, 8]
def kbig : List UInt8 := [197, 179, 217, 110, 90, 165, 59, 175, 54, 124, 165, 44, 31, 63, 162, 231, 214, 240, 249, 237, 4, 173, 200, 13, 59, 212, 115, 124, 99, 36, 53, 82]
def kpre : List UInt8 := [6, 16, 230, 33, 150, 212, 132, 209, 255, 151, 210, 49, 42, 80, 61, 159, 55, 229, 78, 10, 112, 133, 83, 104, 152, 213, 78, 157, 226, 240, 101, 161]
set_option maxRecDepth 100000 in
theorem es1 : shaK kR256 ([115, 105, 103, 110] ++ sec1) = ks1 := by decide +kernel
set_option maxRecDepth 100000 in
theorem es2 : shaK kR256 ([118, 114, 102] ++ sec1) = ks2 := by decide +kernel
set_option maxRecDepth 100000 in
theorem eh1 : sha5K kR512 ks1 = kh1 := by decide +kernel
set_option maxRecDepth 100000 in
theorem eh2 : sha5K kR512 ks2 = kh2 := by decide +kernel
theorem en1 : clampF (kh1.take 32) = kn1 := by decide +kernel
theorem en2 : clampF (kh2.take 32) = kn2 := by decide +kernel
theorem epre : kh1.drop 32 = kpre := by decide +kernel
set_option maxRecDepth 100000 in
theorem rs1 : rsha2K ([[115, 105, 103, 110], sec1].flatten) = ks1 := by decide +kernel
set_option maxRecDepth 100000 in
theorem rs2 : rsha2K ([[118, 114, 102], sec1].flatten) = ks2 := by decide +kernel
set_option maxRecDepth 100000 in
theorem rh1 : rsha5K ks1 = kh1 := by decide +kernel
set_option maxRecDepth 100000 in
theorem rh2 : rsha5K ks2 = kh2 := by decide +kernel
set_option maxRecDepth 100000 in
theorem eroot0 : shaK kR256 [0] = kroot0 := by decide +kernel
theorem emsg : rootB (hashRoot kroot0) = kmsg := by decide +kernel
set_option maxRecDepth 100000 in
theorem er512 : sha5K kR512 ([kpre, kmsg].flatten) = kr512 := by decide +kernel
theorem er : Sc.toB (Sc.leN kr512 % Sc.ordN) = kr := by decide +kernel
end Go.Proofs.YtnhdepmalejclaaGreatDoor

namespace Go.Proofs.YtnhdepmalejclaaGreatDoor
set_option maxRecDepth 100000 in
theorem ep1 : baseK kn1 = kp1 := by decide +kernel
set_option maxRecDepth 100000 in
theorem ep2 : baseK kn2 = kp2 := by decide +kernel
set_option maxRecDepth 100000 in
theorem ebig : baseK kr = kbig := by decide +kernel
set_option maxRecDepth 100000 in
theorem rp1 : baseRK genP (ofL kn1) = kp1 := by decide +kernel
set_option maxRecDepth 100000 in
theorem rp2 : baseRK genP (ofL kn2) = kp2 := by decide +kernel
end Go.Proofs.YtnhdepmalejclaaGreatDoor

namespace Go.Proofs.YtnhdepmalejclaaGreatDoor
open Go.RowKit Go.Lib
set_option maxRecDepth 100000 in
set_option maxHeartbeats 2000000 in
theorem DNew_any (Kt Kq : List Int) (secret : List UInt8) (hs : secret.length = 32) (w : World) (hw : NW w Kt Kq) : Calls Tryz.prog 16 #[.agg (bvs secret).toArray] w (DirPost Kt Kq secret w) := by
  have F0 := Lib.hid (BK.start w)
  have T0 : Hid True := trivial
  have HS := Lib.hid hs
  obtain ⟨hl, hhl⟩ : ∃ z, z = root0F Kt := ⟨_, rfl⟩
  have Lh : Hid (hl.length = 32) := by show _ = _; rw [hhl]; exact sumF_len _ _
  obtain ⟨ks, hks⟩ : ∃ z, z = keysF Kt Kq secret 0 := ⟨_, rfl⟩
  have OK : Hid ks.ok := by show ks.ok; rw [hks]; exact keysF_ok _ _ _ _
  obtain ⟨r0, hr0⟩ : ∃ z, z = hashRoot hl := ⟨_, rfl⟩
  have OR0 : r0.ok := by rw [hr0]; exact hashRoot_ok Lh.out
  obtain ⟨r, hr⟩ : ∃ z, z = newRoot Kt Kq secret := ⟨_, rfl⟩
  have OR : Hid r.ok := by show r.ok; rw [hr]; exact newRoot_ok _ _ _
  have CR : Hid (∀ A c w', Below w.heap.size w w' → Calls Tryz.prog 39 #[.slice A 0 c] w' (fun e w2 => e = .returned (.tuple #[.agg (bvs hl).toArray, .int .i64 0]) ∧ Below w'.heap.size w' w2)) := fun A c w' hb => by rw [hhl]; exact rootOf0 Kt Kq A c w' (hw.bel hb)
  have CP : Hid (∀ w', Below w.heap.size w w' → Calls Tryz.prog 29 #[.agg (bvs secret).toArray, .int .u64 0] w' (fun e w2 => e = .returned (.agg ks.cs) ∧ Below w'.heap.size w' w2)) := fun w' hb => by rw [hks]; exact KPublic_any Kt Kq secret hs 0 w' (hw.bel hb)
  have CB : Hid (∀ w', Below w.heap.size w w' → Calls Tryz.prog 30 #[.agg (bvs secret).toArray] w' (BeginPost Kt secret w')) := fun w' hb => gbegin_any Kt Kq secret hs w' (hw.bel hb)
  have CS : Hid (∀ w', Below w.heap.size w w' → Calls Tryz.prog 40 #[.agg (bvs secret).toArray, .agg r0.cs] w' (fun e w2 => e = .returned (.agg r.cs) ∧ Below w'.heap.size w' w2)) := fun w' hb => by
    rw [hr, hr0, hhl]; rw [hr0, hhl] at OR0; exact SignRoot_any Kt Kq secret hs _ OR0 w' (hw.bel hb)
  have BD : Hid (∀ n m, (Tryz.prog).built 78 [(0, .agg ks.cs), (3, .pointer (some ⟨n, 0, none⟩)), (7, .map (some m))] = some (dirCs ks (.slice none 0 0) n m)) := fun n m => built_dir OK.out
  have BH : Hid ((Tryz.prog).built 28 [(4, .agg (bvs hl).toArray)] = some r0.cs) := by show _ = _; rw [hr0]; exact built_hash Lh.out
  have BS : Hid ((Tryz.prog).built 58 [(0, .agg r.cs)] = some (stepCs r)) := Lib.hid (built_step OR.out)
  have SI := stepInfo
  obtain ⟨ie, iz, hie, hiz, his⟩ := SI
  have HP : Hid (∀ e w', (∃ g gs gn gl gm, e = .returned (.pointer (some ⟨g, 0, none⟩)) ∧ Dir0 w' w.heap.size g gs gn gl gm ks r secret (seedF Kt [118, 114, 102] secret) ∧ Below w.heap.size w w') → DirPost Kt Kq secret w e w') := fun e w' h => by rw [hks, hr] at h; exact h
  have HIE := Lib.hid hie
  have HIZ := Lib.hid hiz
  have HIS := Lib.hid his
  clear hw hs hhl hks hr0 hr OR0 hie hiz his
  go_enter Tryz.func16, Tryz.ntmps16
  go_wp2_with (first
    | (have hx_ := T0; refine s_box F0.out rfl rfl rfl rfl ?_; clear hx_ T0; intro w1 b1 h1 _; have F1 := Lib.hid h1; clear h1 F0; have T1 : Hid True := trivial)
    | (go_at_call 39; have hx_ := T1; refine (CR.out _ _ _ F1.out.below).mono ?_; clear hx_ T1; rintro e w2 ⟨rfl, hb⟩; have F2 := Lib.hid (F1.out.later hb); clear hb F1; have T2 : Hid True := trivial)
    | (have hx_ := T2; refine s_alloc F2.out rfl rfl zeroB32 rfl ?_; clear hx_ T2; intro w3 b2 h1 _; have F3 := Lib.hid h1; clear h1 F2; have T3 : Hid True := trivial)
    | (have hx_ := T3; refine s_store_b F3.out rfl rfl 0 rfl rfl hl Lh.out rfl rfl ?_; clear hx_ T3; intro w4 h1; have F4 := Lib.hid h1; clear h1 F3; have T4 : Hid True := trivial))
  refine wp_region_rg' 6 [none, some (Tell.is (.agg ks.cs)), none, some (Tell.gen w.heap.size secret (seedF Kt [118, 114, 102] secret)), some (Tell.map0), none] (by kernel_rfl) rfl (by kernel_rfl) ⟨Tell.is_good _, Tell.gen_good _ _ _, Tell.map0_good, trivial⟩ ?_
  simp only [List.take_succ_cons, List.take_zero, List.zip_cons_cons, List.zip_nil_right]
  try simp only [Act.put]
  try simp only [List.setIfInBounds_toArray, List.set_cons_succ, List.set_cons_zero]
  refine rg_load _ _ rfl b1 0 rfl (bvs secret).toArray (fun w' hb _ => (F4.out.later hb).range 1 rfl) Tryz.underlying25 rfl (by rw [bvs_size, HS.out]; kernel_rfl) ?_
  try simp only [Act.put]
  try simp only [List.setIfInBounds_toArray, List.set_cons_succ, List.set_cons_zero]
  refine rg_call 29 _ rfl (vs := [.agg (bvs secret).toArray, .int .u64 0]) rfl (fun _ _ => rfl) (v := .agg ks.cs) (fun w' hb ht => CP.out w' (F4.out.later hb).below) ?_
  try simp only [Act.put]
  try simp only [List.setIfInBounds_toArray, List.set_cons_succ, List.set_cons_zero]
  refine rg_load _ _ rfl b1 0 rfl (bvs secret).toArray (fun w' hb _ => (F4.out.later hb).range 1 rfl) Tryz.underlying25 rfl (by rw [bvs_size, HS.out]; kernel_rfl) ?_
  try simp only [Act.put]
  try simp only [List.setIfInBounds_toArray, List.set_cons_succ, List.set_cons_zero]
  refine rg_begin F4.out.below.size Kt secret _ rfl (vs := [.agg (bvs secret).toArray]) rfl (fun w' hb => CB.out w' (F4.out.later hb).below) ?_
  intro gn
  try simp only [Act.put]
  try simp only [List.setIfInBounds_toArray, List.set_cons_succ, List.set_cons_zero]
  refine rg_map rfl ?_
  intro gm
  try simp only [Act.put]
  try simp only [List.setIfInBounds_toArray, List.set_cons_succ, List.set_cons_zero]
  refine rg_build rfl (ps := [(0, .agg ks.cs), (3, .pointer (some ⟨gn, 0, none⟩)), (7, .map (some gm))]) rfl (BD.out gn gm) ?_
  try simp only [Act.put]
  try simp only [List.setIfInBounds_toArray, List.set_cons_succ, List.set_cons_zero]
  intro w5 hb hfs hnd hown
  have F5 := Lib.hid (F4.out.later hb)
  obtain ⟨gl, hG⟩ := hfs (3, fun w' => ∃ gl, Gen0 w' w.heap.size gn gl secret (seedF Kt [118, 114, 102] secret)) (List.mem_of_getElem? (i := 1) rfl)
  have G1 := Lib.hid hG
  have hm : w5.heap[gm]? = some (.map #[] 0) := hfs _ (List.mem_of_getElem? (i := 2) rfl)
  have M1 := Lib.hid hm
  have MO := Lib.hid (Nat.le_trans F4.out.below.size (hown gm (by simp)).1)
  clear hb hfs hnd hown F4 hG hm
  simp only [List.drop_succ_cons, List.drop_zero]
  try simp only [Act.put]
  try simp only [List.setIfInBounds_toArray, List.set_cons_succ, List.set_cons_zero]
  have T4 : Hid True := trivial
  go_wp2_with (first
    | (have hx_ := T4; refine s_box F5.out rfl rfl rfl rfl ?_; clear hx_ T4; intro v1 b3 h1 hb; have G2 := Lib.hid (G1.out.below hb); have M2 := Lib.hid ((hb.block gm (lt_of_some M1.out)).trans M1.out); have F10 := Lib.hid h1; clear h1 F5 hb G1 M1; have T20 : Hid True := trivial)
    | (have hx_ := T20; refine s_load_b rfl rfl secret HS.out rfl (F10.out.lb 2 rfl) ?_; clear hx_ T20; have T21 : Hid True := trivial)
    | (have hx_ := T21; refine s_load_b rfl rfl hl Lh.out rfl (F10.out.lb 1 rfl) ?_; clear hx_ T21; have T22 : Hid True := trivial)
    | (have hx_ := T22; refine s_build rfl rfl (ps := [(4, .agg (bvs hl).toArray)]) rfl BH.out ?_; clear hx_ T22; have T23 : Hid True := trivial)
    | (go_at_call 40; have hx_ := T23; refine (CS.out _ F10.out.below).mono ?_; clear hx_ T23; rintro e v2 ⟨rfl, hb⟩; have G3 := Lib.hid (G2.out.below hb); have M3 := Lib.hid ((hb.block gm (lt_of_some M2.out)).trans M2.out); have F11 := Lib.hid (F10.out.later hb); clear hb F10 G2 M2; have T24 : Hid True := trivial)
    | (have hx_ := T24; refine s_build rfl rfl (ps := [(0, .agg r.cs)]) rfl BS.out ?_; clear hx_ T24; have T25 : Hid True := trivial)
    | (have hx_ := T25; refine s_slice1 F11.out rfl rfl rfl (stepCs_size OR.out) Tryz.underlying73 HIE.out HIZ.out HIS.out (by decide) ?_; clear hx_ T25; intro v3 b4 h1 hb; have G4 := Lib.hid (G3.out.below hb); have M4 := Lib.hid ((hb.block gm (lt_of_some M3.out)).trans M3.out); have F12 := Lib.hid h1; clear h1 hb F11 G3 M3; have F12 := F12; have T26 : Hid True := trivial)
    | (have hx_ := T26; refine s_setSteps F12.out rfl rfl 1 rfl 66 (by rw [dirCs_size OK.out]; decide) rfl rfl ?_; clear hx_ T26; intro v4 h1 hk; rw [put_steps OK.out] at h1; have F13 := Lib.hid h1; have HK := Lib.hid hk; clear h1 hk))
  have e0 := (HK.out gm (fun e => by have := F12.out.mem (i := 1) rfl; rw [← e, M4.out] at this; cases this)).trans M4.out
  go_ret
  exact HP.out _ _ ⟨b3, b4, gn, gl, gm, rfl, ⟨F13.out.own _ (List.mem_of_getElem? (i := 1) rfl), F13.out.own _ (List.mem_of_getElem? (i := 0) rfl), MO.out, F13.out.mem (i := 1) rfl, F13.out.mem (i := 0) rfl, ⟨G4.out.g_, G4.out.gl_, (HK.out gn (fun e => by have h1 := F12.out.mem (i := 1) rfl; rw [← e, G4.out.row] at h1; injection h1 with h1; injection h1 with _ h2; exact absurd (show (103 : Nat) = 78 from h2) (by decide))).trans G4.out.row, (HK.out gl (fun e => by have := F12.out.mem (i := 1) rfl; rw [← e, G4.out.labels] at this; cases this)).trans G4.out.labels⟩, e0⟩, F13.out.below⟩
end Go.Proofs.YtnhdepmalejclaaGreatDoor

namespace Go.Proofs.YtnhdepmalejclaaGreatDoor
open Go.RowKit Go.Lib
theorem Dir0.keys {w : World} {B g gs gn gl gm : Nat} {k : KeyV} {r : RootV} {s v : List UInt8} (h : Dir0 w B g gs gn gl gm k r s v) : w.rangeAt g 0 k.cs.toList := by
  refine rangeAt_part h.row 0 _ fun j hj => ?_
  unfold dirCs
  rw [Nat.zero_add, List.getElem?_toArray, List.getElem?_append_left hj]
theorem Dir0.stepsCell {w : World} {B g gs gn gl gm : Nat} {k : KeyV} {r : RootV} {s v : List UInt8} (h : Dir0 w B g gs gn gl gm k r s v) (hk : k.ok) : w.cell? ⟨g, 66, none⟩ = some (.slice (some ⟨gs, 0, none⟩) 1 1) := by
  rw [cell_of_row w g 66 _ _ _ h.row]
  have lk : k.cs.toList.length = 65 := by rw [Array.length_toList]; exact KeyV.size hk
  unfold dirCs
  rw [List.getElem?_toArray, List.getElem?_append_right (by omega), lk]
  rfl
theorem Dir0.root {w : World} {B g gs gn gl gm : Nat} {k : KeyV} {r : RootV} {s v : List UInt8} (h : Dir0 w B g gs gn gl gm k r s v) : w.rangeAt gs 0 r.cs.toList := by
  refine rangeAt_part h.steps 0 _ fun j hj => ?_
  unfold stepCs
  rw [Nat.zero_add, List.getElem?_toArray, List.getElem?_append_left hj]
set_option maxRecDepth 100000 in
set_option maxHeartbeats 1000000 in
theorem DFirst_any {B g gs gn gl gm : Nat} {k : KeyV} {r : RootV} {s v : List UInt8} (hk : k.ok) (w : World) (h : Dir0 w B g gs gn gl gm k r s v) : Calls Tryz.prog 12 #[.pointer (some ⟨g, 0, none⟩)] w (KRet k w) := by
  have F0 := Lib.hid (BK.start w)
  have T0 : Hid True := trivial
  have OK := Lib.hid hk
  have R0 := Lib.hid (fun w' (hb : Below w.heap.size w w') => (h.below hb).keys)
  clear h hk
  go_enter Tryz.func12, Tryz.ntmps12
  go_wp2_with (first
    | (have hx_ := T0; refine s_alloc F0.out rfl rfl zeroKey rfl ?_; clear hx_ T0; intro w1 b1 h1 _; have F1 := Lib.hid h1; clear h1 F0; have T1 : Hid True := trivial)
    | (have hx_ := T1; refine wpList_load_arr rfl _ _ rfl g 0 rfl k.cs _ (by with_reducible exact R0.out _ F1.out.below) Tryz.underlying33 rfl (by rw [KeyV.size OK.out]; kernel_rfl) ?_; clear hx_ T1; have T2 : Hid True := trivial)
    | (have hx_ := T2; refine s_store F1.out rfl rfl 0 rfl rfl k.cs rfl (by rw [KeyV.size OK.out]; rfl) (by rw [KeyV.size OK.out]; kernel_rfl) (KeyV.cells _) ?_; clear hx_ T2; intro w3 h1; have F2 := Lib.hid h1; clear h1 F1))
  have hl := retKey OK.out (F2.out.mem (i := 0) rfl)
  exact bodyPost_ret (v := .agg k.cs) (by simp [results, Tryz.results12, asAddr, Act.put, hl]) rfl ⟨rfl, F2.out.below⟩
set_option maxRecDepth 100000 in
set_option maxHeartbeats 1000000 in
theorem DRoot_any {B g gs gn gl gm : Nat} {k : KeyV} {r : RootV} {s v : List UInt8} (hk : k.ok) (hr : r.ok) (w : World) (h : Dir0 w B g gs gn gl gm k r s v) : Calls Tryz.prog 14 #[.pointer (some ⟨g, 0, none⟩)] w (RootRet r w) := by
  have F0 := Lib.hid (BK.start w)
  have T0 : Hid True := trivial
  have OK := Lib.hid hk
  have OR := Lib.hid hr
  have R0 := Lib.hid (fun w' (hb : Below w.heap.size w w') => (h.below hb).root)
  have S0_ := Lib.hid (fun w' (hb : Below w.heap.size w w') => (h.below hb).stepsCell hk)
  clear h hk hr
  go_enter Tryz.func14, Tryz.ntmps14
  go_wp2_with (have hx_ := T0; refine s_alloc F0.out rfl rfl zeroRoot rfl ?_; clear hx_ T0; intro w1 b1 h1 _; have F1 := Lib.hid h1; clear h1 F0; have T1 : Hid True := trivial)
  have c66 := S0_.out w1.drew F1.out.drew.below
  refine wp_quiet_tail 13 (by kernel_rfl) (by kernel_rfl) ?_
  simp only [List.take_succ_cons, List.take_zero, List.drop_succ_cons, List.drop_zero]
  try simp only [Act.put]
  try simp only [List.setIfInBounds_toArray, List.set_cons_succ, List.set_cons_zero]
  iterate 12 (go_big_quiet_step (fail))
  go_big_quiet_want
  refine quiet_load_arr _ _ rfl gs 0 rfl r.cs _ (by with_reducible exact R0.out _ F1.out.drew.below) Tryz.underlying28 rfl (by rw [RootV.size OR.out]; kernel_rfl) ?_
  go_big_quiet_on
  simp only [Act.put, List.setIfInBounds_toArray, List.set_cons_succ, List.set_cons_zero]
  refine wpQuiet_nil ?_
  have T0 : Hid True := trivial
  go_wp2_with (have hx_ := T0; refine s_store F1.out.drew rfl rfl 0 rfl rfl r.cs rfl (by rw [RootV.size OR.out]; rfl) (by rw [RootV.size OR.out]; kernel_rfl) (RootV.cells _) ?_; clear hx_ T0; intro w3 h1; have F2 := Lib.hid h1; clear h1 F1)
  have hl := retRoot OR.out (F2.out.mem (i := 0) rfl)
  exact bodyPost_ret (v := .agg r.cs) (by simp [results, Tryz.results14, asAddr, Act.put, hl]) rfl ⟨rfl, F2.out.below⟩
set_option maxRecDepth 100000 in
set_option maxHeartbeats 1000000 in
theorem DFirst_nil (w : World) : Calls Tryz.prog 12 #[.pointer none] w (KRet keyZ w) := by
  have F0 := Lib.hid (BK.start w)
  have T0 : Hid True := trivial
  have OK : keyZ.ok := ⟨rfl, rfl⟩
  have B0 : Hid ((Tryz.prog).built 33 [] = some keyZ.cs) := by show _ = _; kernel_rfl
  go_enter Tryz.func12, Tryz.ntmps12
  go_wp2_with (first
    | (have hx_ := T0; refine s_alloc F0.out rfl rfl zeroKey rfl ?_; clear hx_ T0; intro w1 b1 h1 _; have F1 := Lib.hid h1; clear h1 F0; have T1 : Hid True := trivial)
    | (have hx_ := T1; refine s_build rfl (parts := []) rfl (ps := []) rfl B0.out ?_; clear hx_ T1; have T2 : Hid True := trivial)
    | (have hx_ := T2; refine s_store F1.out rfl rfl 0 rfl rfl keyZ.cs rfl rfl (by kernel_rfl) (KeyV.cells _) ?_; clear hx_ T2; intro w3 h1; have F2 := Lib.hid h1; clear h1 F1))
  have hl := retKey OK (F2.out.mem (i := 0) rfl)
  exact bodyPost_ret (v := .agg keyZ.cs) (by simp [results, Tryz.results12, asAddr, Act.put, hl]) rfl ⟨rfl, F2.out.below⟩
set_option maxRecDepth 100000 in
set_option maxHeartbeats 1000000 in
theorem DRoot_nil (w : World) : Calls Tryz.prog 14 #[.pointer none] w (RootRet rootZ0 w) := by
  have F0 := Lib.hid (BK.start w)
  have T0 : Hid True := trivial
  have OR : rootZ0.ok := ⟨by decide, by decide, by decide, by decide, by decide, by decide, by decide⟩
  have B0 : Hid ((Tryz.prog).built 28 [] = some rootZ0.cs) := by show _ = _; kernel_rfl
  go_enter Tryz.func14, Tryz.ntmps14
  go_wp2_with (first
    | (have hx_ := T0; refine s_alloc F0.out rfl rfl zeroRoot rfl ?_; clear hx_ T0; intro w1 b1 h1 _; have F1 := Lib.hid h1; clear h1 F0; have T1 : Hid True := trivial)
    | (have hx_ := T1; refine s_build rfl (parts := []) rfl (ps := []) rfl B0.out ?_; clear hx_ T1; have T2 : Hid True := trivial)
    | (have hx_ := T2; refine s_store F1.out rfl rfl 0 rfl rfl rootZ0.cs rfl rfl (by kernel_rfl) (RootV.cells _) ?_; clear hx_ T2; intro w3 h1; have F2 := Lib.hid h1; clear h1 F1))
  have hl := retRoot OR (F2.out.mem (i := 0) rfl)
  exact bodyPost_ret (v := .agg rootZ0.cs) (by simp [results, Tryz.results14, asAddr, Act.put, hl]) rfl ⟨rfl, F2.out.below⟩
end Go.Proofs.YtnhdepmalejclaaGreatDoor

namespace Go.Proofs.YtnhdepmalejclaaGreatDoor
open Go.RowKit
theorem sec1_len : sec1.length = 32 := by decide
theorem k256_len : kR256.length = 64 := by decide
theorem k512_len : kR512.length = 80 := by decide
theorem ev_s1 : seedF kR256 [115, 105, 103, 110] sec1 = ks1 := by rw [seedF, ← shaK_eq _ k256_len, es1]
theorem ev_s2 : seedF kR256 [118, 114, 102] sec1 = ks2 := by rw [seedF, ← shaK_eq _ k256_len, es2]
theorem ev_n1 : numF kR512 ks1 = kn1 := by rw [numF, ← sha5K_eq _ k512_len, eh1, en1]
theorem ev_n2 : numF kR512 ks2 = kn2 := by rw [numF, ← sha5K_eq _ k512_len, eh2, en2]
theorem ev_p1 : pubF kR512 ks1 = kp1 := by rw [pubF, ev_n1, ← baseK_eq, ep1]
theorem ev_p2 : pubF kR512 ks2 = kp2 := by rw [pubF, ev_n2, ← baseK_eq, ep2]
theorem evr_n1 : numR_ ks1 = kn1 := by rw [numR_, ← rsha5K_eq, rh1, en1]
theorem evr_n2 : numR_ ks2 = kn2 := by rw [numR_, ← rsha5K_eq, rh2, en2]
theorem evr_p1 : pubR_ ks1 = kp1 := by rw [pubR_, evr_n1, ← baseRK_eq _ _ gen_dec, rp1]
theorem evr_p2 : pubR_ ks2 = kp2 := by rw [pubR_, evr_n2, ← baseRK_eq _ _ gen_dec, rp2]
theorem ev_keys : keysF kR256 kR512 sec1 0 = KeyV.mk 0 kp1 kp2 := by rw [keysF, ev_s1, ev_s2, ev_p1, ev_p2]
theorem evr_keys : keysR sec1 0 = KeyV.mk 0 kp1 kp2 := by rw [keysR, ← rsha2K_eq, ← rsha2K_eq, rs1, rs2, evr_p1, evr_p2]
theorem ev_same : keysF kR256 kR512 sec1 0 = keysR sec1 0 := by rw [ev_keys, evr_keys]
theorem ev_root0 : root0F kR256 = kroot0 := by rw [root0F, ← shaK_eq _ k256_len, eroot0]
theorem ev_pre : preF kR512 ks1 = kpre := by rw [preF, ← sha5K_eq _ k512_len, eh1, epre]
theorem ev_hash : hashF kR512 [kpre, kmsg] = kr := by rw [hashF, ← sha5K_eq _ k512_len, er512, er]
theorem ev_sig : ∃ l, signF kR512 ks1 kmsg = kbig ++ l := by
  refine ⟨Sc.toB ((Sc.leN (hashF kR512 [kbig, pubF kR512 ks1, kmsg]) * Sc.leN (numF kR512 ks1) + Sc.leN kr) % Sc.ordN), ?_⟩
  rw [signF]
  simp only [ev_pre, ev_hash]
  rw [← baseK_eq, ebig]
theorem ev_new : ∃ l, (newRoot kR256 kR512 sec1).s = kbig ++ l := by
  rw [newRoot, signRootF, ev_s1, ev_root0, emsg]
  exact ev_sig
theorem ev_zero : (newRoot kR256 kR512 sec1).s ≠ List.replicate 64 0 := by
  obtain ⟨l, h⟩ := ev_new
  rw [h]
  intro h1
  have h2 := congrArg (fun x => x.getD 0 0) h1
  revert h2
  simp [kbig]
end Go.Proofs.YtnhdepmalejclaaGreatDoor

namespace Go.Proofs.YtnhdepmalejclaaGreatDoor
open Go.RowKit
theorem eq64 (d : Nat) (x y : List UInt8) (hx : x.length = 64) (hy : y.length = 64) (w : World) :
    (Op.equalIn (d + 2) 26 (.agg (bvs x).toArray) (.agg (bvs y).toArray)).run Tryz.prog w = .ok (x == y) w := by
  have hs : (sizeOf 5).run Tryz.prog w = .ok 1 w := by kernel_rfl
  have h1 := eqRange (xs := x) (ys := y) d w (by omega) 64 0 (by omega)
  rw [Op.equalIn]
  simp only [Sem.run_bind, run_underlying Tryz.underlying26, Result.andThen_ok, hs]
  simp only [Std.Legacy.Range.forIn_eq_forIn_range', Std.Legacy.Range.size, Nat.sub_zero, Nat.add_sub_cancel, Nat.div_one]
  refine (congrArg (fun r => Result.andThen r _) h1).trans ?_
  simp only [Result.andThen_ok, List.drop_zero]
  by_cases he : x = y
  · rw [if_pos he]; simp [he]
  · rw [if_neg he]; simp [he]
end Go.Proofs.YtnhdepmalejclaaGreatDoor

namespace Go.Proofs.YtnhdepmalejclaaGreatDoor
open Go.RowKit
theorem eqFields_same (d : Nat) (xs : Array Value) (w : World) : ∀ fs : List Field, (∀ p ∈ fs.map (fun f => (f.name, f.type, f.offset)), p.1 ≠ "_" ∧ ∃ v, (part p.2.1 xs p.2.2).run Tryz.prog w = .ok v w ∧ (Op.equalIn d p.2.1 v v).run Tryz.prog w = .ok true w) → (Op.eqFields d xs xs fs).run Tryz.prog w = .ok true w
  | [], _ => by simp [Op.eqFields]
  | f :: fs, h => by
    obtain ⟨h1, v, h2, h3⟩ := h (f.name, f.type, f.offset) (by simp)
    have ih := eqFields_same d xs w fs (fun p hp => h p (by simp only [List.map_cons, List.mem_cons]; exact .inr hp))
    unfold Op.eqFields
    rw [if_pos h1]
    simp only [Sem.run_bind, h2, Result.andThen_ok, h3, Bool.not_true, Bool.false_eq_true, if_false]
    exact ih
theorem partRow (n : Nat) (t : TypeId) (xs : Array Value) (i : Nat) (l : List UInt8) (w : World) (h1 : (isAgg t).run Tryz.prog w = .ok true w) (h2 : (sizeOf t).run Tryz.prog w = .ok n w) (h : xs.extract i (i + n) = (bvs l).toArray) : (part t xs i).run Tryz.prog w = .ok (.agg (bvs l).toArray) w := by
  simp [part, Sem.run_bind, h1, h2, h]
theorem extract_seg {cs : Array Value} {pre mid post : List Value} {i n : Nat} (h : cs = (pre ++ (mid ++ post)).toArray) (h1 : pre.length = i) (h2 : mid.length = n) : cs.extract i (i + n) = mid.toArray := by
  subst h h1 h2
  apply Array.ext'
  simp
theorem root_fields : ((Tryz.prog).fieldsOf 28).toList.map (fun f => (f.name, f.type, f.offset)) = [("Epoch", 24, 0), ("Kind", 24, 1), ("Gen", 24, 2), ("Prev", 25, 3), ("Hash", 25, 35), ("Link", 25, 67), ("Sig", 26, 99)] := by kernel_rfl
theorem eq_root {r : RootV} (hr : r.ok) (w : World) : (Op.equalIn 10000 28 (.agg r.cs) (.agg r.cs)).run Tryz.prog w = .ok true w := by
  rw [run_equalIn_struct w 9999 28 r.cs r.cs (by kernel_rfl) (by kernel_rfl)]
  refine eqFields_same 9999 r.cs w _ ?_
  rw [root_fields]
  have a32 : (isAgg 25).run Tryz.prog w = .ok true w := by kernel_rfl
  have s32 : (sizeOf 25).run Tryz.prog w = .ok 32 w := by kernel_rfl
  have a64 : (isAgg 26).run Tryz.prog w = .ok true w := by kernel_rfl
  have s64 : (sizeOf 26).run Tryz.prog w = .ok 64 w := by kernel_rfl
  have eu : ∀ n : Nat, (Op.equalIn 9999 24 (.int .u64 (n : Int)) (.int .u64 (n : Int))).run Tryz.prog w = .ok true w := fun n => by
    rw [run_equalIn_int w 9998 _ _ _ _ _ Tryz.underlying24]; simp
  have e32 : ∀ l : List UInt8, l.length = 32 → (Op.equalIn 9999 25 (.agg (bvs l).toArray) (.agg (bvs l).toArray)).run Tryz.prog w = .ok true w := fun l hl => by
    rw [eq32 9997 l l hl hl w]; simp
  have e64 : ∀ l : List UInt8, l.length = 64 → (Op.equalIn 9999 26 (.agg (bvs l).toArray) (.agg (bvs l).toArray)).run Tryz.prog w = .ok true w := fun l hl => by
    rw [eq64 9997 l l hl hl w]; simp
  have p3 : r.cs.extract 3 (3 + 32) = (bvs r.p).toArray := extract_seg (pre := [.int .u64 r.e, .int .u64 r.k, .int .u64 r.g]) (post := bvs r.h ++ (bvs r.l ++ bvs r.s)) rfl rfl (by rw [bvs_length, hr.p])
  have p35 : r.cs.extract 35 (35 + 32) = (bvs r.h).toArray := extract_seg (pre := [.int .u64 r.e, .int .u64 r.k, .int .u64 r.g] ++ bvs r.p) (post := bvs r.l ++ bvs r.s) (by rw [List.append_assoc]; rfl) (by rw [List.length_append, bvs_length, hr.p]; rfl) (by rw [bvs_length, hr.h])
  have p67 : r.cs.extract 67 (67 + 32) = (bvs r.l).toArray := extract_seg (pre := [.int .u64 r.e, .int .u64 r.k, .int .u64 r.g] ++ (bvs r.p ++ bvs r.h)) (post := bvs r.s) (by simp [RootV.cs, RootV.vs]) (by rw [List.length_append, List.length_append, bvs_length, bvs_length, hr.p, hr.h]; rfl) (by rw [bvs_length, hr.l])
  have p99 : r.cs.extract 99 (99 + 64) = (bvs r.s).toArray := extract_seg (pre := [.int .u64 r.e, .int .u64 r.k, .int .u64 r.g] ++ (bvs r.p ++ (bvs r.h ++ bvs r.l))) (post := []) (by simp [RootV.cs, RootV.vs]) (by rw [List.length_append, List.length_append, List.length_append, bvs_length, bvs_length, bvs_length, hr.p, hr.h, hr.l]; rfl) (by rw [bvs_length, hr.s])
  intro p hp
  simp only [List.mem_cons, List.not_mem_nil, or_false] at hp
  rcases hp with rfl | rfl | rfl | rfl | rfl | rfl | rfl
  · exact ⟨by decide, _, part64 r.cs 0 _ w rfl, eu r.e⟩
  · exact ⟨by decide, _, part64 r.cs 1 _ w rfl, eu r.k⟩
  · exact ⟨by decide, _, part64 r.cs 2 _ w rfl, eu r.g⟩
  · exact ⟨by decide, _, partRow 32 _ r.cs 3 r.p w a32 s32 p3, e32 r.p hr.p⟩
  · exact ⟨by decide, _, partRow 32 _ r.cs 35 r.h w a32 s32 p35, e32 r.h hr.h⟩
  · exact ⟨by decide, _, partRow 32 _ r.cs 67 r.l w a32 s32 p67, e32 r.l hr.l⟩
  · exact ⟨by decide, _, partRow 64 _ r.cs 99 r.s w a64 s64 p99, e64 r.s hr.s⟩
theorem keys_fields : ((Tryz.prog).fieldsOf 33).toList.map (fun f => (f.name, f.type, f.offset)) = [("Gen", 24, 0), ("Sign", 25, 1), ("Vrf", 25, 33)] := by kernel_rfl
theorem eq_keys {k : KeyV} (hk : k.ok) (w : World) : (Op.equalIn 10000 33 (.agg k.cs) (.agg k.cs)).run Tryz.prog w = .ok true w := by
  rw [run_equalIn_struct w 9999 33 k.cs k.cs (by kernel_rfl) (by kernel_rfl)]
  refine eqFields_same 9999 k.cs w _ ?_
  rw [keys_fields]
  have a32 : (isAgg 25).run Tryz.prog w = .ok true w := by kernel_rfl
  have s32 : (sizeOf 25).run Tryz.prog w = .ok 32 w := by kernel_rfl
  have eu : ∀ n : Nat, (Op.equalIn 9999 24 (.int .u64 (n : Int)) (.int .u64 (n : Int))).run Tryz.prog w = .ok true w := fun n => by
    rw [run_equalIn_int w 9998 _ _ _ _ _ Tryz.underlying24]; simp
  have e32 : ∀ l : List UInt8, l.length = 32 → (Op.equalIn 9999 25 (.agg (bvs l).toArray) (.agg (bvs l).toArray)).run Tryz.prog w = .ok true w := fun l hl => by
    rw [eq32 9997 l l hl hl w]; simp
  have p1 : k.cs.extract 1 (1 + 32) = (bvs k.s).toArray := extract_seg (pre := [.int .u64 k.g]) (post := bvs k.v) rfl rfl (by rw [bvs_length, hk.1])
  have p33 : k.cs.extract 33 (33 + 32) = (bvs k.v).toArray := extract_seg (pre := [.int .u64 k.g] ++ bvs k.s) (post := []) (by rw [List.append_nil, List.append_assoc]; rfl) (by rw [List.length_append, bvs_length, hk.1]; rfl) (by rw [bvs_length, hk.2])
  intro p hp
  simp only [List.mem_cons, List.not_mem_nil, or_false] at hp
  rcases hp with rfl | rfl | rfl
  · exact ⟨by decide, _, part64 k.cs 0 _ w rfl, eu k.g⟩
  · exact ⟨by decide, _, partRow 32 _ k.cs 1 k.s w a32 s32 p1, e32 k.s hk.1⟩
  · exact ⟨by decide, _, partRow 32 _ k.cs 33 k.v w a32 s32 p33, e32 k.v hk.2⟩
theorem bin_keys {k : KeyV} (hk : k.ok) (w : World) : (binOp .eql 33 (.agg k.cs) (.agg k.cs)).run Tryz.prog w = .ok (.bool true) w := by
  rw [run_eql_struct, eq_keys hk w]
  rfl
theorem bin_root {r : RootV} (hr : r.ok) (w : World) : (binOp .eql 28 (.agg r.cs) (.agg r.cs)).run Tryz.prog w = .ok (.bool true) w := by
  rw [run_eql_struct, eq_root hr w]
  rfl
theorem bin64n (x y : List UInt8) (hx : x.length = 64) (hy : y.length = 64) (w : World) :
    (binOp .neq 26 (.agg (bvs x).toArray) (.agg (bvs y).toArray)).run Tryz.prog w = .ok (.bool (!(x == y))) w := by
  rw [run_neq_struct, eq64 9998 x y hx hy w]
  rfl
theorem sig_at {r : RootV} (hr : r.ok) : r.cs.extract 99 (99 + 64) = (bvs r.s).toArray := extract_seg (pre := [.int .u64 r.e, .int .u64 r.k, .int .u64 r.g] ++ (bvs r.p ++ (bvs r.h ++ bvs r.l))) (post := []) (by simp [RootV.cs, RootV.vs]) (by rw [List.length_append, List.length_append, List.length_append, bvs_length, bvs_length, bvs_length, hr.p, hr.h, hr.l]; rfl) (by rw [bvs_length, hr.s])
theorem keyZ_ok : keyZ.ok := ⟨List.length_replicate .., List.length_replicate ..⟩
theorem built_sig0 : (Tryz.prog).built 26 [] = some (bvs (List.replicate 64 0)).toArray := by kernel_rfl
set_option maxRecDepth 100000 in
theorem built_keys0 : (Tryz.prog).built 33 [] = some keyZ.cs := by kernel_rfl
set_option maxRecDepth 100000 in
theorem built_rootZ : (Tryz.prog).built 28 [] = some rootZ0.cs := by kernel_rfl
set_option maxRecDepth 100000 in
theorem built_sec1 : (Tryz.prog).built 25 [(0, .int .u8 1)] = some (bvs (1 :: List.replicate 31 0)).toArray := by kernel_rfl
end Go.Proofs.YtnhdepmalejclaaGreatDoor

namespace Go.Proofs.YtnhdepmalejclaaGreatDoor
open Go.RowKit Go.Lib
section
variable {ops : Array Oper} {rest : List Oper} {o : Oper} {a : Act} {w0 w : World} {Q : Exit → Act → World → Prop} {bs : List (Nat × Array Value × TypeId)}
/-- A new block that holds one pointer. -/
theorem s_boxp (F : BK w0 w bs) (hg : o.guard = none) {ty : TypeId} {x : Operand} (ho : o.op = .box ty x) {p : Option Addr} (hx : a.eval x = .pointer p) {s : Nat} (hd : o.dst = some s)
    (h : ∀ w' b, BK w0 w' ((b, #[.pointer p], ty) :: bs) → Below w.heap.size w w' → wpList Tryz.prog ops Q rest (a.put (some s) (.pointer (some ⟨b, 0, none⟩))) w') : wpList Tryz.prog ops Q (o :: rest) a w := by
  refine wpList_plain hg fun _ hK => ?_
  unfold Oper.wp execOp
  have h1 : (Instr.box ty (.pointer p)).run Tryz.prog w = .ok (.pointer (some ⟨w.heap.size, 0, none⟩)) (w.alloc (.cells #[.pointer p] ty)) := rfl
  simp only [ho, hx, h1, Sem.run_bind, Sem.run_pure, Result.andThen_ok]
  refine hK _ _ ?_
  rw [hd]
  exact h _ _ (F.alloc rfl #[.pointer p] ty) ((Below.refl _ _).alloc (Nat.le_refl _) _)
end
/-- What the zero of a type is, in cells. -/
def Zero (t : TypeId) (Z : Array Value) : Prop := (∀ w, (zeroValue t).run Tryz.prog w = .ok (.agg Z) w) ∧ (Tryz.prog).built t [] = some Z ∧ (Tryz.prog.info? t).map (·.size) = some Z.size ∧ Z.all (·.oneCell') = true
theorem cells_one {cs : Array Value} (h : cs.toList.all (·.oneCell') = true) : cs.all (·.oneCell') = true := by rw [← Array.all_toList]; exact h
def ZRet (t : TypeId) (vs : List Value) (w : World) (e : Ending) (w' : World) : Prop := ∃ Z, Zero t Z ∧ e = .returned (.tuple (.agg Z :: vs).toArray) ∧ Below w.heap.size w w'
theorem zRoot : ∃ Z, Zero 28 Z := ⟨((Tryz.prog).built 28 []).getD #[], fun w => by kernel_rfl, by kernel_rfl, by kernel_rfl, cells_one (by kernel_rfl)⟩
theorem zCert : ∃ Z, Zero 35 Z := ⟨((Tryz.prog).built 35 []).getD #[], fun w => by kernel_rfl, by kernel_rfl, by kernel_rfl, cells_one (by kernel_rfl)⟩
theorem zLookup : ∃ Z, Zero 46 Z := ⟨((Tryz.prog).built 46 []).getD #[], fun w => by kernel_rfl, by kernel_rfl, by kernel_rfl, cells_one (by kernel_rfl)⟩
theorem zHistory : ∃ Z, Zero 52 Z := ⟨((Tryz.prog).built 52 []).getD #[], fun w => by kernel_rfl, by kernel_rfl, by kernel_rfl, cells_one (by kernel_rfl)⟩
theorem zStep : ∃ Z, Zero 58 Z := ⟨((Tryz.prog).built 58 []).getD #[], fun w => by kernel_rfl, by kernel_rfl, by kernel_rfl, cells_one (by kernel_rfl)⟩
set_option maxRecDepth 100000 in
set_option maxHeartbeats 1000000 in
theorem DPublish_nil (w : World) : Calls Tryz.prog 5 #[.pointer none, .slice none 0 0] w (ZRet 28 [.int .i64 1] w) := by
  have F0 := Lib.hid (BK.start w)
  have T0 : Hid True := trivial
  have u0 := Tryz.underlying28
  obtain ⟨Z, hZ⟩ := zRoot
  have HZ := Lib.hid hZ
  have Z1 := Lib.hid hZ.1
  have B1 := Lib.hid hZ.2.1
  have I1 := Lib.hid hZ.2.2.1
  have O1 := Lib.hid hZ.2.2.2
  clear hZ
  go_enter Tryz.func5, Tryz.ntmps5
  go_wp2_with (first
    | (have hx_ := T0; refine s_boxp F0.out rfl rfl rfl rfl ?_; clear hx_ T0; intro w1 b1 h1 _; have c0 := h1.cell 0 rfl 0; have F1 := Lib.hid h1; clear h1 F0; have T1 : Hid True := trivial)
    | (have hx_ := T1; refine s_alloc F1.out rfl rfl Z1.out rfl ?_; clear hx_ T1; intro w2 b2 h1 _; have c1 := h1.cell 1 rfl 0; have F2 := Lib.hid h1; clear h1 F1; have T2 : Hid True := trivial)
    | (have hx_ := T2; refine s_build rfl (parts := []) rfl (ps := []) rfl B1.out ?_; clear hx_ T2; have T3 : Hid True := trivial)
    | (have hx_ := T3; refine s_store F2.out rfl rfl 0 rfl rfl Z rfl (rfl) (I1.out) (O1.out) ?_; clear hx_ T3; intro w3 h1; have F3 := Lib.hid h1; clear h1 F2; have T4 : Hid True := trivial))
  have hl := ret_row (F3.out.mem (i := 0) rfl) u0 rfl I1.out
  exact bodyPost_ret (v := .tuple #[.agg Z, .int .i64 1]) (by simp [results, Tryz.results5, asAddr, hl]) rfl ⟨Z, HZ.out, rfl, F3.out.below⟩
set_option maxRecDepth 100000 in
set_option maxHeartbeats 1000000 in
theorem DRotate_nil (l : List UInt8) (w : World) : Calls Tryz.prog 6 #[.pointer none, .agg (bvs l).toArray] w (ZRet 35 [.int .i64 1] w) := by
  have F0 := Lib.hid (BK.start w)
  have T0 : Hid True := trivial
  have u0 := Tryz.underlying35
  obtain ⟨Z, hZ⟩ := zCert
  have HZ := Lib.hid hZ
  have Z1 := Lib.hid hZ.1
  have B1 := Lib.hid hZ.2.1
  have I1 := Lib.hid hZ.2.2.1
  have O1 := Lib.hid hZ.2.2.2
  clear hZ
  go_enter Tryz.func6, Tryz.ntmps6
  go_wp2_with (first
    | (have hx_ := T0; refine s_box F0.out rfl rfl rfl rfl ?_; clear hx_ T0; intro w1 b1 h1 _; have F1 := Lib.hid h1; clear h1 F0; have T1 : Hid True := trivial)
    | (have hx_ := T1; refine s_alloc F1.out rfl rfl Z1.out rfl ?_; clear hx_ T1; intro w2 b2 h1 _; have F2 := Lib.hid h1; clear h1 F1; have T2 : Hid True := trivial)
    | (have hx_ := T2; refine s_build rfl (parts := []) rfl (ps := []) rfl B1.out ?_; clear hx_ T2; have T3 : Hid True := trivial)
    | (have hx_ := T3; refine s_store F2.out rfl rfl 0 rfl rfl Z rfl (rfl) (I1.out) (O1.out) ?_; clear hx_ T3; intro w3 h1; have F3 := Lib.hid h1; clear h1 F2; have T4 : Hid True := trivial))
  have hl := ret_row (F3.out.mem (i := 0) rfl) u0 rfl I1.out
  exact bodyPost_ret (v := .tuple #[.agg Z, .int .i64 1]) (by simp [results, Tryz.results6, asAddr, hl]) rfl ⟨Z, HZ.out, rfl, F3.out.below⟩
set_option maxRecDepth 100000 in
set_option maxHeartbeats 1000000 in
theorem DMove_nil (n : Int) (w : World) : Calls Tryz.prog 7 #[.pointer none, .int .i64 n] w (ZRet 28 [.bool false, .int .i64 1] w) := by
  have F0 := Lib.hid (BK.start w)
  have T0 : Hid True := trivial
  have u0 := Tryz.underlying28
  obtain ⟨Z, hZ⟩ := zRoot
  have HZ := Lib.hid hZ
  have Z1 := Lib.hid hZ.1
  have B1 := Lib.hid hZ.2.1
  have I1 := Lib.hid hZ.2.2.1
  have O1 := Lib.hid hZ.2.2.2
  clear hZ
  go_enter Tryz.func7, Tryz.ntmps7
  go_wp2_with (first
    | (have hx_ := T0; refine s_alloc F0.out rfl rfl Z1.out rfl ?_; clear hx_ T0; intro w1 b1 h1 _; have F1 := Lib.hid h1; clear h1 F0; have T1 : Hid True := trivial)
    | (have hx_ := T1; refine s_build rfl (parts := []) rfl (ps := []) rfl B1.out ?_; clear hx_ T1; have T2 : Hid True := trivial)
    | (have hx_ := T2; refine s_store F1.out rfl rfl 0 rfl rfl Z rfl (rfl) (I1.out) (O1.out) ?_; clear hx_ T2; intro w2 h1; have F2 := Lib.hid h1; clear h1 F1; have T3 : Hid True := trivial))
  have hl := ret_row (F2.out.mem (i := 0) rfl) u0 rfl I1.out
  exact bodyPost_ret (v := .tuple #[.agg Z, .bool false, .int .i64 1]) (by simp [results, Tryz.results7, asAddr, hl]) rfl ⟨Z, HZ.out, rfl, F2.out.below⟩
set_option maxRecDepth 100000 in
set_option maxHeartbeats 1000000 in
theorem DLookup_nil (s : ByteArray) (w : World) : Calls Tryz.prog 8 #[.pointer none, .string s] w (ZRet 46 [.int .i64 1] w) := by
  have F0 := Lib.hid (BK.start w)
  have T0 : Hid True := trivial
  have u0 := Tryz.underlying46
  obtain ⟨Z, hZ⟩ := zLookup
  have HZ := Lib.hid hZ
  have Z1 := Lib.hid hZ.1
  have B1 := Lib.hid hZ.2.1
  have I1 := Lib.hid hZ.2.2.1
  have O1 := Lib.hid hZ.2.2.2
  clear hZ
  go_enter Tryz.func8, Tryz.ntmps8
  go_wp2_with (first
    | (have hx_ := T0; refine s_alloc F0.out rfl rfl Z1.out rfl ?_; clear hx_ T0; intro w1 b1 h1 _; have F1 := Lib.hid h1; clear h1 F0; have T1 : Hid True := trivial)
    | (have hx_ := T1; refine s_build rfl (parts := []) rfl (ps := []) rfl B1.out ?_; clear hx_ T1; have T2 : Hid True := trivial)
    | (have hx_ := T2; refine s_store F1.out rfl rfl 0 rfl rfl Z rfl (rfl) (I1.out) (O1.out) ?_; clear hx_ T2; intro w2 h1; have F2 := Lib.hid h1; clear h1 F1; have T3 : Hid True := trivial))
  have hl := ret_row (F2.out.mem (i := 0) rfl) u0 rfl I1.out
  exact bodyPost_ret (v := .tuple #[.agg Z, .int .i64 1]) (by simp [results, Tryz.results8, asAddr, hl]) rfl ⟨Z, HZ.out, rfl, F2.out.below⟩
set_option maxRecDepth 100000 in
set_option maxHeartbeats 1000000 in
theorem DHistory_nil (s : ByteArray) (w : World) : Calls Tryz.prog 9 #[.pointer none, .string s] w (ZRet 52 [.int .i64 1] w) := by
  have F0 := Lib.hid (BK.start w)
  have T0 : Hid True := trivial
  have u0 := Tryz.underlying52
  obtain ⟨Z, hZ⟩ := zHistory
  have HZ := Lib.hid hZ
  have Z1 := Lib.hid hZ.1
  have B1 := Lib.hid hZ.2.1
  have I1 := Lib.hid hZ.2.2.1
  have O1 := Lib.hid hZ.2.2.2
  clear hZ
  go_enter Tryz.func9, Tryz.ntmps9
  go_wp2_with (first
    | (have hx_ := T0; refine s_alloc F0.out rfl rfl Z1.out rfl ?_; clear hx_ T0; intro w1 b1 h1 _; have F1 := Lib.hid h1; clear h1 F0; have T1 : Hid True := trivial)
    | (have hx_ := T1; refine s_build rfl (parts := []) rfl (ps := []) rfl B1.out ?_; clear hx_ T1; have T2 : Hid True := trivial)
    | (have hx_ := T2; refine s_store F1.out rfl rfl 0 rfl rfl Z rfl (rfl) (I1.out) (O1.out) ?_; clear hx_ T2; intro w2 h1; have F2 := Lib.hid h1; clear h1 F1; have T3 : Hid True := trivial))
  have hl := ret_row (F2.out.mem (i := 0) rfl) u0 rfl I1.out
  exact bodyPost_ret (v := .tuple #[.agg Z, .int .i64 1]) (by simp [results, Tryz.results9, asAddr, hl]) rfl ⟨Z, HZ.out, rfl, F2.out.below⟩
set_option maxRecDepth 100000 in
set_option maxHeartbeats 1000000 in
theorem DStep_nil (n : Int) (w : World) : Calls Tryz.prog 10 #[.pointer none, .int .u64 n] w (ZRet 58 [.int .i64 1] w) := by
  have F0 := Lib.hid (BK.start w)
  have T0 : Hid True := trivial
  have u0 := Tryz.underlying58
  obtain ⟨Z, hZ⟩ := zStep
  have HZ := Lib.hid hZ
  have Z1 := Lib.hid hZ.1
  have B1 := Lib.hid hZ.2.1
  have I1 := Lib.hid hZ.2.2.1
  have O1 := Lib.hid hZ.2.2.2
  clear hZ
  go_enter Tryz.func10, Tryz.ntmps10
  go_wp2_with (first
    | (have hx_ := T0; refine s_alloc F0.out rfl rfl Z1.out rfl ?_; clear hx_ T0; intro w1 b1 h1 _; have F1 := Lib.hid h1; clear h1 F0; have T1 : Hid True := trivial)
    | (have hx_ := T1; refine s_build rfl (parts := []) rfl (ps := []) rfl B1.out ?_; clear hx_ T1; have T2 : Hid True := trivial)
    | (have hx_ := T2; refine s_store F1.out rfl rfl 0 rfl rfl Z rfl (rfl) (I1.out) (O1.out) ?_; clear hx_ T2; intro w2 h1; have F2 := Lib.hid h1; clear h1 F1; have T3 : Hid True := trivial))
  have hl := ret_row (F2.out.mem (i := 0) rfl) u0 rfl I1.out
  exact bodyPost_ret (v := .tuple #[.agg Z, .int .i64 1]) (by simp [results, Tryz.results10, asAddr, hl]) rfl ⟨Z, HZ.out, rfl, F2.out.below⟩
set_option maxRecDepth 100000 in
set_option maxHeartbeats 1000000 in
theorem DDevices_nil (s : ByteArray) (w : World) : Calls Tryz.prog 11 #[.pointer none, .string s] w (fun e w' => e = .returned (.tuple #[.slice none 0 0, .int .i64 0]) ∧ w' = w) := by
  go_enter Tryz.func11, Tryz.ntmps11
  go_wp2
  go_ret2
  exact ⟨rfl, rfl⟩
set_option maxRecDepth 100000 in
set_option maxHeartbeats 1000000 in
theorem DCerts_nil (w : World) : Calls Tryz.prog 13 #[.pointer none] w (fun e w' => e = .returned (.slice none 0 0) ∧ w' = w) := by
  go_enter Tryz.func13, Tryz.ntmps13
  go_wp2
  go_ret
  exact ⟨rfl, rfl⟩
set_option maxRecDepth 100000 in
set_option maxHeartbeats 1000000 in
theorem DMoving_nil (w : World) : Calls Tryz.prog 15 #[.pointer none] w (fun e w' => e = .returned (.int .i64 0) ∧ w' = w) := by
  go_enter Tryz.func15, Tryz.ntmps15
  go_wp2
  go_ret
  exact ⟨rfl, rfl⟩
end Go.Proofs.YtnhdepmalejclaaGreatDoor
