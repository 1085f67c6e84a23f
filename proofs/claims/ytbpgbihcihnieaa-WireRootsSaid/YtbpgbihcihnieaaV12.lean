/- Roots are compared; a drawn region's class is narrowed. No conditions. -/
import Derived.Test.YtbpgbihcihnieaaV11e
import Derived.Test.YtbpgbihcihnieaaV3d
import Derived.Test.YtbpgbihcihnieaaEq32
import Derived.Test.YtbpgbihcihnieaaEq64r
namespace Go.Proofs.Ytbpgbihcihnieaa
open Go.RowKit
theorem AnyC.narrow {P : Program} {ops : Array Oper} {C C' : World → Prop} {Q : Act → World → Prop} {fuel : Nat} {listed : Array Bool} {a : Act} {w : World} (hC : ∀ w, C' w → C w) (h : AnyC P ops C' Q fuel listed a w) : AnyC P ops C Q fuel listed a w :=
  fun hD => ⟨hC _ (h hD).1, anyZ_mono _ _ _ _ (fun _ w hw => hC w hw) (h hD).2⟩
theorem eqFields_same (d : Nat) (xs : Array Value) (w : World) : ∀ fs : List Field, (∀ p ∈ fs.map (fun f => (f.name, f.type, f.offset)), p.1 ≠ "_" ∧ ∃ v, (part p.2.1 xs p.2.2).run Try.prog w = .ok v w ∧ (Op.equalIn d p.2.1 v v).run Try.prog w = .ok true w) → (Op.eqFields d xs xs fs).run Try.prog w = .ok true w
  | [], _ => by simp [Op.eqFields]
  | f :: fs, h => by
    obtain ⟨h1, v, h2, h3⟩ := h (f.name, f.type, f.offset) (by simp)
    have ih := eqFields_same d xs w fs (fun p hp => h p (by simp only [List.map_cons, List.mem_cons]; exact .inr hp))
    unfold Op.eqFields
    rw [if_pos h1]
    simp only [Sem.run_bind, h2, Result.andThen_ok, h3, Bool.not_true, Bool.false_eq_true, if_false]
    exact ih
theorem part64 (xs : Array Value) (i : Nat) (v : Value) (w : World) (h : xs[i]? = some v) : (part 34 xs i).run Try.prog w = .ok v w := by
  have h1 : (isAgg 34).run Try.prog w = .ok false w := by kernel_rfl
  simp [part, Sem.run_bind, h1, h]
theorem partRow (n : Nat) (t : TypeId) (xs : Array Value) (i : Nat) (l : List UInt8) (w : World) (h1 : (isAgg t).run Try.prog w = .ok true w) (h2 : (sizeOf t).run Try.prog w = .ok n w) (h : xs.extract i (i + n) = (bvs l).toArray) : (part t xs i).run Try.prog w = .ok (.agg (bvs l).toArray) w := by
  simp [part, Sem.run_bind, h1, h2, h]
theorem extract_seg {cs : Array Value} {pre mid post : List Value} {i n : Nat} (h : cs = (pre ++ (mid ++ post)).toArray) (h1 : pre.length = i) (h2 : mid.length = n) : cs.extract i (i + n) = mid.toArray := by
  subst h h1 h2
  apply Array.ext'
  simp
theorem root_fields : ((Try.prog).fieldsOf 47).toList.map (fun f => (f.name, f.type, f.offset)) = [("Epoch", 34, 0), ("Kind", 34, 1), ("Gen", 34, 2), ("Prev", 44, 3), ("Hash", 44, 35), ("Link", 44, 67), ("Sig", 45, 99)] := by kernel_rfl
theorem eq_root {r : RootV} (hr : r.ok) (w : World) : (Op.equalIn 10000 47 (.agg r.cs) (.agg r.cs)).run Try.prog w = .ok true w := by
  rw [run_equalIn_struct w 9999 47 r.cs r.cs (by kernel_rfl) (by kernel_rfl)]
  refine eqFields_same 9999 r.cs w _ ?_
  rw [root_fields]
  have a32 : (isAgg 44).run Try.prog w = .ok true w := by kernel_rfl
  have s32 : (sizeOf 44).run Try.prog w = .ok 32 w := by kernel_rfl
  have a64 : (isAgg 45).run Try.prog w = .ok true w := by kernel_rfl
  have s64 : (sizeOf 45).run Try.prog w = .ok 64 w := by kernel_rfl
  have eu : ∀ n : Nat, (Op.equalIn 9999 34 (.int .u64 (n : Int)) (.int .u64 (n : Int))).run Try.prog w = .ok true w := fun n => by
    rw [run_equalIn_int w 9998 _ _ _ _ _ Try.underlying34]; simp
  have e32 : ∀ l : List UInt8, l.length = 32 → (Op.equalIn 9999 44 (.agg (bvs l).toArray) (.agg (bvs l).toArray)).run Try.prog w = .ok true w := fun l hl => by
    rw [eq32 9997 l l hl hl w]; simp
  have e64 : ∀ l : List UInt8, l.length = 64 → (Op.equalIn 9999 45 (.agg (bvs l).toArray) (.agg (bvs l).toArray)).run Try.prog w = .ok true w := fun l hl => by
    rw [eq64 9997 l l hl hl w]; simp
  have p3 : r.cs.extract 3 (3 + 32) = (bvs r.p).toArray := extract_seg (pre := [.int .u64 r.e, .int .u64 r.k, .int .u64 r.g]) (post := bvs r.h ++ (bvs r.l ++ bvs r.s)) rfl rfl (by rw [bvs_length, hr.p])
  have p35 : r.cs.extract 35 (35 + 32) = (bvs r.h).toArray := extract_seg (pre := [.int .u64 r.e, .int .u64 r.k, .int .u64 r.g] ++ bvs r.p) (post := bvs r.l ++ bvs r.s) (by rw [List.append_assoc]; rfl) (by rw [List.length_append, bvs_length, hr.p]; rfl) (by rw [bvs_length, hr.h])
  have p67 : r.cs.extract 67 (67 + 32) = (bvs r.l).toArray := extract_seg (pre := [.int .u64 r.e, .int .u64 r.k, .int .u64 r.g] ++ (bvs r.p ++ bvs r.h)) (post := bvs r.s) (by simp [RootV.cs, RootV.vs]) (by rw [List.length_append, List.length_append, bvs_length, bvs_length, hr.p, hr.h]; rfl) (by rw [bvs_length, hr.l])
  have p99 : r.cs.extract 99 (99 + 64) = (bvs r.s).toArray := extract_seg (pre := [.int .u64 r.e, .int .u64 r.k, .int .u64 r.g] ++ (bvs r.p ++ (bvs r.h ++ bvs r.l))) (post := []) (by simp [RootV.cs, RootV.vs]) (by rw [List.length_append, List.length_append, List.length_append, bvs_length, bvs_length, bvs_length, hr.p, hr.h, hr.l]; rfl) (by rw [bvs_length, hr.s])
  intro p hp
  simp only [List.mem_cons, List.not_mem_nil, or_false] at hp
  rcases hp with rfl | rfl | rfl | rfl | rfl | rfl | rfl
  · exact ⟨by decide, _, part64 r.cs 0 _ w rfl, eu r.e⟩
  · exact ⟨by decide, _, part64 r.cs 1 _ w rfl, eu r.k⟩
  · exact ⟨by decide, _, part64 r.cs 2 _ w rfl, eu r.g⟩
  · exact ⟨by decide, _, partRow 32 _ r.cs 3 r.p w a32 s32 p3, e32 r.p hr.p⟩
  · exact ⟨by decide, _, partRow 32 _ r.cs 35 r.h w a32 s32 p35, e32 r.h hr.h⟩
  · exact ⟨by decide, _, partRow 32 _ r.cs 67 r.l w a32 s32 p67, e32 r.l hr.l⟩
  · exact ⟨by decide, _, partRow 64 _ r.cs 99 r.s w a64 s64 p99, e64 r.s hr.s⟩
end Go.Proofs.Ytbpgbihcihnieaa
