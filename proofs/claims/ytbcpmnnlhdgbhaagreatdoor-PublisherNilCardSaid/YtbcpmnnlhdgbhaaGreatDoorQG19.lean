/- The texts Sc6b Sc7 Sc8 Eq32 Sc9 Sc10 of this work, merged by wip/merge.py. No conditions. -/
import Derived.Test.YtbcpmnnlhdgbhaaGreatDoorQG18
import Derived.Test.YtbcpmnnlhdgbhaaGreatDoorQG04
import Derived.Test.YtbcpmnnlhdgbhaaGreatDoorQG00
import Derived.Laws.StructEq
namespace Go.Proofs.YtbcpmnnlhdgbhaaGreatDoor.Sc
open Go.RowKit
def toB (v : Nat) : List UInt8 := genL (fun i => UInt8.ofNat (v / 256 ^ i)) 32
theorem toB_length (v : Nat) : (toB v).length = 32 := genL_length _ _
theorem leN_gen (v : Nat) : ∀ n : Nat, leN (genL (fun i => UInt8.ofNat (v / 256 ^ i)) n) = v % 256 ^ n
  | 0 => by simp [genL, leN, Nat.mod_one]
  | n + 1 => by
    have h1 : genL (fun i => UInt8.ofNat (v / 256 ^ i)) (n + 1) = genL (fun i => UInt8.ofNat (v / 256 ^ i)) n ++ [UInt8.ofNat (v / 256 ^ n)] := by
      unfold genL
      rw [List.range_succ, List.map_append]
      rfl
    rw [h1, leN_app, leN_gen v n, genL_length]
    simp only [leN, UInt8.toNat_ofNat', Nat.mul_zero, Nat.add_zero]
    rw [Nat.pow_succ]
    exact (Nat.mod_mul (a := 256 ^ n) (b := 256) (x := v)).symm
theorem mod_ofNat {a b : Nat} (h : a % 256 = b % 256) : UInt8.ofNat a = UInt8.ofNat b := by
  apply UInt8.toNat_inj.1
  rw [UInt8.toNat_ofNat', UInt8.toNat_ofNat']
  exact h
set_option maxRecDepth 100000 in
set_option maxHeartbeats 2000000 in
theorem byteW_val {x : W4} (hx : x.ok) : genL (byteW x) 32 = toB x.val := by
  unfold toB genL
  apply List.map_congr_left
  intro i hi
  have hi' : i < 32 := by simpa using hi
  unfold byteW
  apply mod_ofNat
  unfold W4.ok at hx
  unfold W4.val
  obtain ⟨a, b, c, d⟩ := x
  simp only at hx ⊢
  have : i = 0 ∨ i = 1 ∨ i = 2 ∨ i = 3 ∨ i = 4 ∨ i = 5 ∨ i = 6 ∨ i = 7 ∨ i = 8 ∨ i = 9 ∨ i = 10 ∨ i = 11 ∨ i = 12 ∨ i = 13 ∨ i = 14 ∨ i = 15 ∨ i = 16 ∨ i = 17 ∨ i = 18 ∨ i = 19 ∨ i = 20 ∨ i = 21 ∨ i = 22 ∨ i = 23 ∨ i = 24 ∨ i = 25 ∨ i = 26 ∨ i = 27 ∨ i = 28 ∨ i = 29 ∨ i = 30 ∨ i = 31 := by omega
  rcases this with rfl | rfl | rfl | rfl | rfl | rfl | rfl | rfl | rfl | rfl | rfl | rfl | rfl | rfl | rfl | rfl | rfl | rfl | rfl | rfl | rfl | rfl | rfl | rfl | rfl | rfl | rfl | rfl | rfl | rfl | rfl | rfl
  · show a / 2 ^ 0 % 256 = (a + 18446744073709551616 * b + 340282366920938463463374607431768211456 * c + 6277101735386680763835789423207666416102355444464034512896 * d) / 1 % 256
    rw [show (2 : Nat) ^ 0 = 1 from rfl]
    omega
  · show a / 2 ^ 8 % 256 = (a + 18446744073709551616 * b + 340282366920938463463374607431768211456 * c + 6277101735386680763835789423207666416102355444464034512896 * d) / 256 % 256
    rw [show (2 : Nat) ^ 8 = 256 from rfl]
    omega
  · show a / 2 ^ 16 % 256 = (a + 18446744073709551616 * b + 340282366920938463463374607431768211456 * c + 6277101735386680763835789423207666416102355444464034512896 * d) / 65536 % 256
    rw [show (2 : Nat) ^ 16 = 65536 from rfl]
    omega
  · show a / 2 ^ 24 % 256 = (a + 18446744073709551616 * b + 340282366920938463463374607431768211456 * c + 6277101735386680763835789423207666416102355444464034512896 * d) / 16777216 % 256
    rw [show (2 : Nat) ^ 24 = 16777216 from rfl]
    omega
  · show a / 2 ^ 32 % 256 = (a + 18446744073709551616 * b + 340282366920938463463374607431768211456 * c + 6277101735386680763835789423207666416102355444464034512896 * d) / 4294967296 % 256
    rw [show (2 : Nat) ^ 32 = 4294967296 from rfl]
    omega
  · show a / 2 ^ 40 % 256 = (a + 18446744073709551616 * b + 340282366920938463463374607431768211456 * c + 6277101735386680763835789423207666416102355444464034512896 * d) / 1099511627776 % 256
    rw [show (2 : Nat) ^ 40 = 1099511627776 from rfl]
    omega
  · show a / 2 ^ 48 % 256 = (a + 18446744073709551616 * b + 340282366920938463463374607431768211456 * c + 6277101735386680763835789423207666416102355444464034512896 * d) / 281474976710656 % 256
    rw [show (2 : Nat) ^ 48 = 281474976710656 from rfl]
    omega
  · show a / 2 ^ 56 % 256 = (a + 18446744073709551616 * b + 340282366920938463463374607431768211456 * c + 6277101735386680763835789423207666416102355444464034512896 * d) / 72057594037927936 % 256
    rw [show (2 : Nat) ^ 56 = 72057594037927936 from rfl]
    omega
  · show b / 2 ^ 0 % 256 = (a + 18446744073709551616 * b + 340282366920938463463374607431768211456 * c + 6277101735386680763835789423207666416102355444464034512896 * d) / 18446744073709551616 % 256
    rw [show (2 : Nat) ^ 0 = 1 from rfl]
    omega
  · show b / 2 ^ 8 % 256 = (a + 18446744073709551616 * b + 340282366920938463463374607431768211456 * c + 6277101735386680763835789423207666416102355444464034512896 * d) / 4722366482869645213696 % 256
    rw [show (2 : Nat) ^ 8 = 256 from rfl]
    omega
  · show b / 2 ^ 16 % 256 = (a + 18446744073709551616 * b + 340282366920938463463374607431768211456 * c + 6277101735386680763835789423207666416102355444464034512896 * d) / 1208925819614629174706176 % 256
    rw [show (2 : Nat) ^ 16 = 65536 from rfl]
    omega
  · show b / 2 ^ 24 % 256 = (a + 18446744073709551616 * b + 340282366920938463463374607431768211456 * c + 6277101735386680763835789423207666416102355444464034512896 * d) / 309485009821345068724781056 % 256
    rw [show (2 : Nat) ^ 24 = 16777216 from rfl]
    omega
  · show b / 2 ^ 32 % 256 = (a + 18446744073709551616 * b + 340282366920938463463374607431768211456 * c + 6277101735386680763835789423207666416102355444464034512896 * d) / 79228162514264337593543950336 % 256
    rw [show (2 : Nat) ^ 32 = 4294967296 from rfl]
    omega
  · show b / 2 ^ 40 % 256 = (a + 18446744073709551616 * b + 340282366920938463463374607431768211456 * c + 6277101735386680763835789423207666416102355444464034512896 * d) / 20282409603651670423947251286016 % 256
    rw [show (2 : Nat) ^ 40 = 1099511627776 from rfl]
    omega
  · show b / 2 ^ 48 % 256 = (a + 18446744073709551616 * b + 340282366920938463463374607431768211456 * c + 6277101735386680763835789423207666416102355444464034512896 * d) / 5192296858534827628530496329220096 % 256
    rw [show (2 : Nat) ^ 48 = 281474976710656 from rfl]
    omega
  · show b / 2 ^ 56 % 256 = (a + 18446744073709551616 * b + 340282366920938463463374607431768211456 * c + 6277101735386680763835789423207666416102355444464034512896 * d) / 1329227995784915872903807060280344576 % 256
    rw [show (2 : Nat) ^ 56 = 72057594037927936 from rfl]
    omega
  · show c / 2 ^ 0 % 256 = (a + 18446744073709551616 * b + 340282366920938463463374607431768211456 * c + 6277101735386680763835789423207666416102355444464034512896 * d) / 340282366920938463463374607431768211456 % 256
    rw [show (2 : Nat) ^ 0 = 1 from rfl]
    omega
  · show c / 2 ^ 8 % 256 = (a + 18446744073709551616 * b + 340282366920938463463374607431768211456 * c + 6277101735386680763835789423207666416102355444464034512896 * d) / 87112285931760246646623899502532662132736 % 256
    rw [show (2 : Nat) ^ 8 = 256 from rfl]
    omega
  · show c / 2 ^ 16 % 256 = (a + 18446744073709551616 * b + 340282366920938463463374607431768211456 * c + 6277101735386680763835789423207666416102355444464034512896 * d) / 22300745198530623141535718272648361505980416 % 256
    rw [show (2 : Nat) ^ 16 = 65536 from rfl]
    omega
  · show c / 2 ^ 24 % 256 = (a + 18446744073709551616 * b + 340282366920938463463374607431768211456 * c + 6277101735386680763835789423207666416102355444464034512896 * d) / 5708990770823839524233143877797980545530986496 % 256
    rw [show (2 : Nat) ^ 24 = 16777216 from rfl]
    omega
  · show c / 2 ^ 32 % 256 = (a + 18446744073709551616 * b + 340282366920938463463374607431768211456 * c + 6277101735386680763835789423207666416102355444464034512896 * d) / 1461501637330902918203684832716283019655932542976 % 256
    rw [show (2 : Nat) ^ 32 = 4294967296 from rfl]
    omega
  · show c / 2 ^ 40 % 256 = (a + 18446744073709551616 * b + 340282366920938463463374607431768211456 * c + 6277101735386680763835789423207666416102355444464034512896 * d) / 374144419156711147060143317175368453031918731001856 % 256
    rw [show (2 : Nat) ^ 40 = 1099511627776 from rfl]
    omega
  · show c / 2 ^ 48 % 256 = (a + 18446744073709551616 * b + 340282366920938463463374607431768211456 * c + 6277101735386680763835789423207666416102355444464034512896 * d) / 95780971304118053647396689196894323976171195136475136 % 256
    rw [show (2 : Nat) ^ 48 = 281474976710656 from rfl]
    omega
  · show c / 2 ^ 56 % 256 = (a + 18446744073709551616 * b + 340282366920938463463374607431768211456 * c + 6277101735386680763835789423207666416102355444464034512896 * d) / 24519928653854221733733552434404946937899825954937634816 % 256
    rw [show (2 : Nat) ^ 56 = 72057594037927936 from rfl]
    omega
  · show d / 2 ^ 0 % 256 = (a + 18446744073709551616 * b + 340282366920938463463374607431768211456 * c + 6277101735386680763835789423207666416102355444464034512896 * d) / 6277101735386680763835789423207666416102355444464034512896 % 256
    rw [show (2 : Nat) ^ 0 = 1 from rfl]
    omega
  · show d / 2 ^ 8 % 256 = (a + 18446744073709551616 * b + 340282366920938463463374607431768211456 * c + 6277101735386680763835789423207666416102355444464034512896 * d) / 1606938044258990275541962092341162602522202993782792835301376 % 256
    rw [show (2 : Nat) ^ 8 = 256 from rfl]
    omega
  · show d / 2 ^ 16 % 256 = (a + 18446744073709551616 * b + 340282366920938463463374607431768211456 * c + 6277101735386680763835789423207666416102355444464034512896 * d) / 411376139330301510538742295639337626245683966408394965837152256 % 256
    rw [show (2 : Nat) ^ 16 = 65536 from rfl]
    omega
  · show d / 2 ^ 24 % 256 = (a + 18446744073709551616 * b + 340282366920938463463374607431768211456 * c + 6277101735386680763835789423207666416102355444464034512896 * d) / 105312291668557186697918027683670432318895095400549111254310977536 % 256
    rw [show (2 : Nat) ^ 24 = 16777216 from rfl]
    omega
  · show d / 2 ^ 32 % 256 = (a + 18446744073709551616 * b + 340282366920938463463374607431768211456 * c + 6277101735386680763835789423207666416102355444464034512896 * d) / 26959946667150639794667015087019630673637144422540572481103610249216 % 256
    rw [show (2 : Nat) ^ 32 = 4294967296 from rfl]
    omega
  · show d / 2 ^ 40 % 256 = (a + 18446744073709551616 * b + 340282366920938463463374607431768211456 * c + 6277101735386680763835789423207666416102355444464034512896 * d) / 6901746346790563787434755862277025452451108972170386555162524223799296 % 256
    rw [show (2 : Nat) ^ 40 = 1099511627776 from rfl]
    omega
  · show d / 2 ^ 48 % 256 = (a + 18446744073709551616 * b + 340282366920938463463374607431768211456 * c + 6277101735386680763835789423207666416102355444464034512896 * d) / 1766847064778384329583297500742918515827483896875618958121606201292619776 % 256
    rw [show (2 : Nat) ^ 48 = 281474976710656 from rfl]
    omega
  · show d / 2 ^ 56 % 256 = (a + 18446744073709551616 * b + 340282366920938463463374607431768211456 * c + 6277101735386680763835789423207666416102355444464034512896 * d) / 452312848583266388373324160190187140051835877600158453279131187530910662656 % 256
    rw [show (2 : Nat) ^ 56 = 72057594037927936 from rfl]
    omega
theorem lessN_mod {n : Nat} (h : n < 2 * ordN) : lessN n = n % ordN := by
  unfold lessN
  split
  · rename_i h1
    rw [Nat.mod_eq_sub_mod h1, Nat.mod_eq_of_lt (by omega)]
  · rename_i h1
    rw [Nat.mod_eq_of_lt (by omega)]
end Go.Proofs.YtbcpmnnlhdgbhaaGreatDoor.Sc

namespace Go.Proofs.YtbcpmnnlhdgbhaaGreatDoor.Sc
open Go.RowKit
theorem zero32 : ∃ zs : Array Value, zs.size = 32 ∧ (∀ w, (zeroValue 31).run Tryz.prog w = .ok (.agg zs) w) := ⟨(bvs (List.replicate 32 0)).toArray, by simp [bvs], fun w => by kernel_rfl⟩
theorem ret32 {wr : World} {b : Nat} {cs : Array Value} (h : wr.there b 0 32) (hs : cs.size = 32) :
    (loadVar 31 ⟨b, 0, none⟩).run Tryz.prog (wr.setCells b 0 cs.toList) = .ok (.agg cs) (wr.setCells b 0 cs.toList) := by
  have h1 := run_loadVar_mid (P := Tryz.prog) (wr.setCells b 0 cs.toList) b 0 31 cs.toList _ (World.rangeAt_setCells_same _ _ _ _ (by rw [Array.length_toList, hs]; exact h)) Tryz.underlying31 rfl (by rw [Array.length_toList, hs]; kernel_rfl)
  rw [Array.toArray_toList] at h1
  exact h1
theorem there_below {w w' : World} {b o n : Nat} (h : w.there b o n) (hb : b < w.heap.size) (hB : Below w.heap.size w w') : w'.there b o n := fun j hj => by
  have h1 := hB.block b hb
  rw [World.cell?_of_block (a := ⟨b, o + j, none⟩) h1, World.frozen?_of_block (a := ⟨b, o + j, none⟩) h1]
  exact h j hj
theorem reads_box (w : World) (l : List UInt8) (t : TypeId) {w' : World} (hb : Below (w.heap.size + 1) (w.alloc (.cells (bvs l).toArray t)) w') : Reads w' w'.heap.size 1 (some ⟨w.heap.size, 0, none⟩) l.length (bvs l) := by
  have hs : w.heap.size < w'.heap.size := by have := hb.size; simp at this; omega
  refine ⟨by simp [bvs_length], fun _ => ⟨_, rfl, hs, fun j u hu => ?_⟩⟩
  rw [add_none]
  refine (hb.cell (p := ⟨w.heap.size, 0 + j, none⟩) (by show w.heap.size < _; omega)).trans ?_
  rw [Nat.zero_add, cell_new]
  simpa using hu
set_option maxRecDepth 100000 in
set_option maxHeartbeats 1000000 in
theorem Reduce_any (l : List UInt8) (hl : l.length = 64) (w : World) (ho : Ord w) : Calls Tryz.prog 177 #[.agg (bvs l).toArray] w (BytesPost (toB (leN l % ordN)) w) := by
  obtain ⟨zs, hzz, hz32⟩ := zero32
  obtain ⟨xs, hxs⟩ : ∃ xs : Array Value, xs = (bvs l).toArray := ⟨_, rfl⟩
  rw [← hxs]
  have Hb : Hid (Below w.heap.size w ((w.alloc (.cells xs 32)).alloc (.cells zs 31))) := ((Below.refl _ _).alloc (Nat.le_refl _) _).alloc (by simp) _
  have Hth : Hid (((w.alloc (.cells xs 32)).alloc (.cells zs 31)).there (w.heap.size + 1) 0 32) := by
    have h1 := there_new (w.alloc (.cells xs 32)) zs 31 32 (by omega)
    rw [show (w.alloc (.cells xs 32)).heap.size = w.heap.size + 1 from by simp] at h1
    exact h1
  have Hr : Hid (Reads ((w.alloc (.cells xs 32)).alloc (.cells zs 31)) ((w.alloc (.cells xs 32)).alloc (.cells zs 31)).heap.size 1 (some ⟨w.heap.size, 0, none⟩) l.length (bvs l)) := by
    rw [hxs]
    exact reads_box w l _ ((Below.refl _ _).alloc (by simp) _)
  have Hl := Lib.hid hl
  have Hxs := Lib.hid hxs
  have Ho := Lib.hid ho
  clear hl hxs ho
  go_enter Tryz.func177, Tryz.ntmps177
  go_wp2_with (first
    | (go_at_call 179; go_must (have h_ := reduce_any (m := 8) (c := 64) l Hl.out ⟨by omega, by omega⟩ _ Hr.out (Ho.out.below Hb.out); rw [Hl.out] at h_; refine h_.mono ?_; rintro e w2 ⟨d, rfl, hd, hdv, hb2⟩; have H2 := Lib.hid (And.intro hd hdv); have HB2 := Lib.hid hb2; clear hd hdv hb2))
    | (go_at_call 184; go_must (refine (bytes_any d H2.out.1 _).mono ?_; rintro e w3 ⟨rfl, hb3⟩; rw [byteW_val H2.out.1, H2.out.2]; have HB3 := Lib.hid hb3; clear hb3; obtain ⟨cs, hcs⟩ : ∃ cs, (bvs (toB (leN l % ordN))).toArray = cs := ⟨_, rfl⟩; rw [hcs]; have Hcs := Lib.hid hcs; have Hcz : Hid (cs.size = 32) := (by show cs.size = 32; rw [← hcs]; simp [bvs_length, toB_length]); have Hth3 := Lib.hid (there_below (there_below Hth.out (by simp) HB2.out) (by have h_ := HB2.out.size; simp at h_; omega) HB3.out); clear hcs))
    | (refine wpList_store_mid rfl _ _ _ rfl (w.heap.size + 1) 0 cs rfl rfl (by rw [Hcz.out]; exact Hth3.out) (by rw [Hcz.out]; kernel_rfl) (by rw [← Hcs.out]; exact all_oneCell_toArray (bvs_one _)) ?_))
  have hld := ret32 Hth3.out Hcz.out
  refine bodyPost_ret (v := .agg cs) (by simp [results, Tryz.results177, Act.put, asAddr, hld]) rfl ⟨by rw [← Hcs.out], ?_⟩
  exact below_setCells _ _ _ ((Hb.out.trans (HB2.out.mono Hb.out.size)).trans (HB3.out.mono (Nat.le_trans Hb.out.size HB2.out.size))) (by omega)
end Go.Proofs.YtbcpmnnlhdgbhaaGreatDoor.Sc

namespace Go.Proofs.YtbcpmnnlhdgbhaaGreatDoor.Sc
open Go.RowKit
section
variable {P : Program}
theorem AnyC.startB {id n : Nat} {Q' : Exit → Act → World → Prop} {a : Act} {w : World} {l : List Oper} (C : World → Prop) (hm : P.follows .mixedOrders = true) (hn : l.length = n)
    (h : ∀ w', Below w.heap.size w w' → w'.heap.size = w.heap.size → AnyC P l.toArray C (fun a w => Q' .normal a w) n (Array.replicate n false) a w') : (Code.region id l.toArray true).wp P Q' a w :=
  AnyC.start C hm hn (h { w with drawn := w.drawn + 1 } ⟨rfl, rfl, rfl, Nat.le_refl _, fun _ _ => rfl⟩ rfl)
end
theorem reads_row {w : World} {b : Nat} {l : List UInt8} {t : TypeId} {f : Nat × Nat} (h : w.heap[b]? = some (.cells (bvs l).toArray t f)) : Reads w w.heap.size 1 (some ⟨b, 0, none⟩) l.length (bvs l) := by
  refine ⟨by simp [bvs_length], fun _ => ⟨_, rfl, lt_of_heap h, fun j u hu => ?_⟩⟩
  rw [add_none]
  show w.cell? ⟨b, 0 + j, none⟩ = _
  rw [Nat.zero_add, cell_of_row w b j _ _ _ h]
  simpa using hu
theorem mod_twice (a b n : Nat) : (a % n + b % n) % n = (a + b) % n := (Nat.add_mod a b n).symm
/-- add, then less, of two answers of reduce. -/
theorem addless {x y d : W4} {c A B : Nat} (hx : x.val = A % ordN) (hy : y.val = B % ordN) (hc : c ≤ 1) (hv : x.val + y.val = d.val + c * 115792089237316195423570985008687907853269984665640564039457584007913129639936) : lessN d.val = (A + B) % ordN := by
  have h1 := Nat.mod_lt A ordN_pos
  have h2 := Nat.mod_lt B ordN_pos
  have h3 : ordN = 7237005577332262213973186563042994240857116359379907606001950938285454250989 := rfl
  rw [← hx] at h1
  rw [← hy] at h2
  have hc0 : c = 0 := by
    rw [h3] at h1 h2
    clear h3
    omega
  subst hc0
  rw [lessN_mod (by omega), ← mod_twice, ← hx, ← hy, hv]
  simp
theorem heap_below {w w' : World} {b : Nat} {o : Obj} (h : w.heap[b]? = some o) (hb : Below w.heap.size w w') : w'.heap[b]? = some o := (hb.block _ (lt_of_heap h)).trans h
end Go.Proofs.YtbcpmnnlhdgbhaaGreatDoor.Sc

namespace Go.Proofs.YtbcpmnnlhdgbhaaGreatDoor
open Go.RowKit
theorem part8 (xs : Array Value) (i : Nat) (v : Value) (w : World) (h : xs[i]? = some v) : (part 5 xs i).run Tryz.prog w = .ok v w := by
  have h1 : (isAgg 5).run Tryz.prog w = .ok false w := by kernel_rfl
  simp [part, Sem.run_bind, h1, h]
theorem eq8 (d : Nat) (a b : UInt8) (w : World) : (Op.equalIn (d + 1) 5 (bv a) (bv b)).run Tryz.prog w = .ok (a == b) w := by
  unfold bv
  rw [run_equalIn_int w d _ _ _ _ _ Tryz.underlying5]
  congr 1
  rw [Bool.eq_iff_iff, beq_iff_eq, beq_iff_eq, Int.ofNat_inj]
  exact UInt8.toNat_inj
theorem eqRange {xs ys : List UInt8} (d : Nat) (w : World) (hl : xs.length = ys.length) : ∀ (n k : Nat), k + n = xs.length →
    (forIn (List.range' k n 1) ((none : Option Bool), ()) (fun i (_ : Option Bool × Unit) => do
      if !(← Op.equalIn (d + 1) 5 (← part 5 (bvs xs).toArray (i * 1)) (← part 5 (bvs ys).toArray (i * 1))) then pure (ForInStep.done (some false, ())) else pure (ForInStep.yield (none, ())))).run Tryz.prog w =
      .ok (if xs.drop k = ys.drop k then none else some false, ()) w := by
  intro n
  induction n with
  | zero =>
    intro k hk
    rw [List.drop_eq_nil_of_le (by omega), List.drop_eq_nil_of_le (by omega)]
    simp
  | succ n ih =>
    intro k hk
    have hx : k < xs.length := by omega
    have hy : k < ys.length := by omega
    rw [List.range'_succ, List.forIn_cons]
    simp only [Sem.run_bind, Nat.mul_one]
    rw [part8 _ k (bv xs[k]) w (by simp [bvs, hx])]
    simp only [Result.andThen_ok]
    rw [part8 _ k (bv ys[k]) w (by simp [bvs, hy])]
    simp only [Result.andThen_ok, eq8]
    rw [List.drop_eq_getElem_cons hx, List.drop_eq_getElem_cons hy]
    by_cases he : xs[k] = ys[k]
    · rw [he]
      simp only [beq_self_eq_true, Bool.not_true, Bool.false_eq_true, if_false, Sem.run_pure, Result.andThen_ok]
      have h1 := ih (k + 1) (by omega)
      simp only [Nat.mul_one] at h1
      rw [h1]
      simp [-List.getElem_cons_drop]
    · simp [he, -List.getElem_cons_drop]
theorem eq32 (d : Nat) (x y : List UInt8) (hx : x.length = 32) (hy : y.length = 32) (w : World) :
    (Op.equalIn (d + 2) 31 (.agg (bvs x).toArray) (.agg (bvs y).toArray)).run Tryz.prog w = .ok (x == y) w := by
  have hs : (sizeOf 5).run Tryz.prog w = .ok 1 w := by kernel_rfl
  have h1 := eqRange (xs := x) (ys := y) d w (by omega) 32 0 (by omega)
  rw [Op.equalIn]
  simp only [Sem.run_bind, run_underlying Tryz.underlying31, Result.andThen_ok, hs]
  simp only [Std.Legacy.Range.forIn_eq_forIn_range', Std.Legacy.Range.size, Nat.sub_zero, Nat.add_sub_cancel, Nat.div_one]
  refine (congrArg (fun r => Result.andThen r _) h1).trans ?_
  simp only [Result.andThen_ok, List.drop_zero]
  by_cases he : x = y
  · rw [if_pos he]; simp [he]
  · rw [if_neg he]; simp [he]
end Go.Proofs.YtbcpmnnlhdgbhaaGreatDoor

namespace Go.Proofs.YtbcpmnnlhdgbhaaGreatDoor.Sc
open Go.RowKit
theorem range_row {w : World} {b : Nat} {cs : Array Value} {t : TypeId} {f : Nat × Nat} (h : w.heap[b]? = some (.cells cs t f)) : w.rangeAt b 0 cs.toList := fun j v hv => by
  rw [Nat.zero_add, cell_of_row w b j cs t f h]
  simpa using hv
theorem wpList_load_arr {P : Program} {ops : Array Oper} {rest : List Oper} {op : Oper} {a : Act} {w : World} {Q : Exit → Act → World → Prop} (hgd : op.guard = none) (ty : TypeId) (x : Operand) (ho : op.op = .load ty x)
    (b o : Nat) (hx : a.eval x = .pointer (some ⟨b, o, none⟩)) (cs : Array Value) (d : TypeDesc) (hc : w.rangeAt b o cs.toList)
    (hu : P.underlying ty = some d) (hd : d.isRow = true) (hi : (P.info? ty).map (·.size) = some cs.size)
    (h : wpList P ops Q rest (a.put op.dst (.agg cs)) w) : wpList P ops Q (op :: rest) a w :=
  wpList_load_mid hgd ty x ho b o hx cs.toList d hc hu hd (by rw [Array.length_toList]; exact hi) (by rw [Array.toArray_toList]; exact h)
end Go.Proofs.YtbcpmnnlhdgbhaaGreatDoor.Sc

namespace Go.Proofs.YtbcpmnnlhdgbhaaGreatDoor.Sc
open Go.RowKit
def wN : List Nat → Nat
  | [] => 0
  | v :: r => v + 18446744073709551616 * wN r
def wC (ws : List Nat) : Array Value := (ws.map fun (v : Nat) => Value.int .u64 (v : Int)).toArray
theorem wC_at {ws : List Nat} {k : Nat} (hk : k < ws.length) : (wC ws)[k]? = some (.int .u64 (ws.getD k 0 : Int)) := by
  simp [wC, hk]
theorem wC_set {ws : List Nat} {k v : Nat} (hk : k < ws.length) {u : Value} (hu : u = .int .u64 (v : Int)) : (wC ws).setIfInBounds k u = wC (ws.set k v) := by
  subst hu
  apply Array.ext_getElem?
  intro i
  by_cases hi : i = k
  · subst hi; simp [wC, hk]
  · rw [Array.getElem?_setIfInBounds_ne (Ne.symm hi)]
    simp [wC, List.getElem?_set_ne (Ne.symm hi)]
theorem wN_set : ∀ (ws : List Nat) (k v : Nat), k < ws.length → wN (ws.set k v) + 18446744073709551616 ^ k * ws.getD k 0 = wN ws + 18446744073709551616 ^ k * v
  | [], k, v, h => by simp at h
  | a :: r, 0, v, _ => by
    simp [wN]
    omega
  | a :: r, k + 1, v, h => by
    have h1 := wN_set r k v (by simpa using h)
    simp only [List.set_cons_succ, wN, List.getD_cons_succ]
    rw [Nat.pow_succ, Nat.mul_comm (18446744073709551616 ^ k) 18446744073709551616, Nat.mul_assoc, Nat.mul_assoc]
    omega
theorem getD_set_ne {ws : List Nat} {k j v : Nat} (h : k ≠ j) : (ws.set k v).getD j 0 = ws.getD j 0 := by
  simp [List.getD_eq_getElem?_getD, List.getElem?_set_ne h]
theorem getD_set_eq {ws : List Nat} {k v : Nat} (h : k < ws.length) : (ws.set k v).getD k 0 = v := by
  simp [List.getD_eq_getElem?_getD, h]
/-- The words below the i-th. -/
def W4.low (x : W4) (i : Nat) : Nat := wN ([x.a, x.b, x.c, x.d].take i)
theorem W4.low_zero (x : W4) : x.low 0 = 0 := rfl
theorem W4.low_four (x : W4) : x.low 4 = x.val := by
  simp [W4.low, wN, W4.val]
  omega
theorem W4.low_succ (x : W4) {i : Nat} (hi : i < 4) : x.low (i + 1) = x.low i + 18446744073709551616 ^ i * x.wd i := by
  obtain rfl | rfl | rfl | rfl : i = 0 ∨ i = 1 ∨ i = 2 ∨ i = 3 := by omega
  all_goals simp [W4.low, wN, W4.wd]
  all_goals omega
/-- The words of the product: so far. -/
structure Mw (ws : List Nat) (i : Nat) (V : Nat) : Prop where
  len : ws.length = 8
  lt : ∀ k, ws.getD k 0 < 18446744073709551616
  zero : ∀ k, i + 4 ≤ k → ws.getD k 0 = 0
  val : wN ws = V
theorem Mw.start : Mw [0, 0, 0, 0, 0, 0, 0, 0] 0 0 := by
  refine ⟨rfl, fun k => ?_, fun k _ => ?_, rfl⟩
  · rcases Nat.lt_or_ge k 8 with h | h
    · obtain rfl | rfl | rfl | rfl | rfl | rfl | rfl | rfl : k = 0 ∨ k = 1 ∨ k = 2 ∨ k = 3 ∨ k = 4 ∨ k = 5 ∨ k = 6 ∨ k = 7 := by omega
      all_goals decide
    · simp [h]
  · rcases Nat.lt_or_ge k 8 with h | h
    · obtain rfl | rfl | rfl | rfl | rfl | rfl | rfl | rfl : k = 0 ∨ k = 1 ∨ k = 2 ∨ k = 3 ∨ k = 4 ∨ k = 5 ∨ k = 6 ∨ k = 7 := by omega
      all_goals rfl
    · simp [h]
/-- Within a row: a carry of weight B^(i+j). -/
structure Mi (ws : List Nat) (i j c V : Nat) : Prop where
  len : ws.length = 8
  lt : ∀ k, ws.getD k 0 < 18446744073709551616
  zero : ∀ k, i + 4 ≤ k → ws.getD k 0 = 0
  carry : c < 18446744073709551616
  val : wN ws + 18446744073709551616 ^ (i + j) * c = V
theorem Mw.enter {ws : List Nat} {i V : Nat} (h : Mw ws i V) : Mi ws i 0 0 V := ⟨h.len, h.lt, h.zero, by decide, by rw [Nat.mul_zero, Nat.add_zero, h.val]⟩
theorem mul_hl (X Y : Nat) (hX : X < 18446744073709551616) (hY : Y < 18446744073709551616) : X * Y / 18446744073709551616 ≤ 18446744073709551614 ∧ X * Y = X * Y % 18446744073709551616 + 18446744073709551616 * (X * Y / 18446744073709551616) ∧ X * Y ≤ 340282366920938463426481119284349108225 := by
  have h1 : X * Y ≤ 18446744073709551615 * 18446744073709551615 := Nat.mul_le_mul (by omega) (by omega)
  omega
theorem Mi.step {ws : List Nat} {i j c V P l s : Nat} (h : Mi ws i j c V) (hi : i < 4) (hj : j < 4) (hs : l + 18446744073709551616 * s = P + ws.getD (i + j) 0 + c) (hl : l < 18446744073709551616) (hsb : s < 18446744073709551616) :
    Mi (ws.set (i + j) l) i (j + 1) s (V + 18446744073709551616 ^ (i + j) * P) := by
  refine ⟨by rw [List.length_set, h.len], fun k => ?_, fun k hk => ?_, hsb, ?_⟩
  · by_cases hk : i + j = k
    · subst hk; rw [getD_set_eq (by rw [h.len]; omega)]; exact hl
    · rw [getD_set_ne hk]; exact h.lt k
  · rw [getD_set_ne (by omega)]; exact h.zero k hk
  · have h1 := wN_set ws (i + j) l (by rw [h.len]; omega)
    have h2 := h.val
    have h3 : 18446744073709551616 ^ (i + j) * (l + 18446744073709551616 * s) = 18446744073709551616 ^ (i + j) * (P + ws.getD (i + j) 0 + c) := by rw [hs]
    rw [Nat.mul_add, Nat.mul_add, Nat.mul_add, ← Nat.mul_assoc, ← Nat.pow_succ] at h3
    rw [show i + (j + 1) = (i + j).succ from rfl]
    omega
theorem Mi.leave {ws : List Nat} {i c V : Nat} (h : Mi ws i 4 c V) (hi : i < 4) : Mw (ws.set (i + 4) c) (i + 1) V := by
  refine ⟨by rw [List.length_set, h.len], fun k => ?_, fun k hk => ?_, ?_⟩
  · by_cases hk : i + 4 = k
    · subst hk; rw [getD_set_eq (by rw [h.len]; omega)]; exact h.carry
    · rw [getD_set_ne hk]; exact h.lt k
  · rw [getD_set_ne (by omega)]; exact h.zero k (by omega)
  · have h1 := wN_set ws (i + 4) c (by rw [h.len]; omega)
    rw [h.zero (i + 4) (Nat.le_refl _)] at h1
    have h2 := h.val
    omega
/-- The target of a row's j-th step. -/
theorem low_step (x y : W4) {i j : Nat} (hj : j < 4) : x.low i * y.val + 18446744073709551616 ^ i * x.wd i * y.low j + 18446744073709551616 ^ (i + j) * (x.wd i * y.wd j) = x.low i * y.val + 18446744073709551616 ^ i * x.wd i * y.low (j + 1) := by
  rw [y.low_succ hj, Nat.mul_add, Nat.add_assoc, Nat.pow_add]
  congr 2
  rw [Nat.mul_assoc, Nat.mul_assoc]
  congr 1
  rw [Nat.mul_left_comm]
theorem low_row (x y : W4) {i : Nat} (hi : i < 4) : x.low i * y.val + 18446744073709551616 ^ i * x.wd i * y.low 4 = x.low (i + 1) * y.val := by
  rw [y.low_four, x.low_succ hi, Nat.add_mul]
/-- The bytes of eight words. -/
def byteL (ws : List Nat) (i : Nat) : UInt8 := UInt8.ofNat (ws.getD (i / 8) 0 / 2 ^ (8 * (i % 8)))
theorem byteL_cell (ws : List Nat) (k : Nat) : Value.int IntKind.u8 ((ws.getD (k / 8) 0 : Int) / 2 ^ (8 * (k % 8)) % 256) = bv (byteL ws k) := by
  unfold bv byteL
  congr 1
theorem genL_cut (f : Nat → UInt8) : ∀ n, leN (genL f (n + 8)) = leN (genL f 8) + 18446744073709551616 * leN (genL (fun i => f (i + 8)) n) := by
  intro n
  have h1 : genL f (n + 8) = genL f 8 ++ genL (fun i => f (i + 8)) n := by
    simp only [genL]
    rw [show n + 8 = 8 + n from Nat.add_comm _ _, List.range_add, List.map_append, List.map_map]
    congr 1
    apply List.map_congr_left
    intro i _
    show f (8 + i) = f (i + 8)
    rw [Nat.add_comm]
  rw [h1, leN_app, genL_length]
theorem leN_byteL : ∀ ws : List Nat, (∀ k, ws.getD k 0 < 18446744073709551616) → leN (genL (byteL ws) (8 * ws.length)) = wN ws
  | [], _ => rfl
  | v :: r, h => by
    have hv : v < 18446744073709551616 := h 0
    have h1 := leN_byteL r (fun k => h (k + 1))
    rw [show 8 * (v :: r).length = 8 * r.length + 8 from by simp; omega, genL_cut]
    have h2 : (fun i => byteL (v :: r) (i + 8)) = byteL r := by
      funext i
      unfold byteL
      rw [show (i + 8) / 8 = i / 8 + 1 from by omega, show (i + 8) % 8 = i % 8 from by omega, List.getD_cons_succ]
    have h3 : genL (byteL (v :: r)) 8 = genL (fun i => UInt8.ofNat (v / 256 ^ i)) 8 := by
      simp only [genL]
      apply List.map_congr_left
      intro i hi
      have hi' : i < 8 := by simpa using hi
      unfold byteL
      rw [show i / 8 = 0 from by omega, show i % 8 = i from by omega, Nat.pow_mul]
      rfl
    rw [h2, h1, h3, leN_gen, Nat.mod_eq_of_lt (by simpa using hv)]
    rfl
end Go.Proofs.YtbcpmnnlhdgbhaaGreatDoor.Sc
