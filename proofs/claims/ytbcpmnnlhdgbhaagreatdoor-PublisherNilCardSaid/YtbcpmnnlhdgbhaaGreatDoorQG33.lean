/- The texts Y5 Y6 D11 LFull0 of this work, merged by wip/merge.py. No conditions. -/
import Derived.Test.YtbcpmnnlhdgbhaaGreatDoorQG32
import Derived.Test.YtbcpmnnlhdgbhaaGreatDoorQG04
import Derived.Test.YtbcpmnnlhdgbhaaGreatDoorQG31
namespace Go.Proofs.YtbcpmnnlhdgbhaaGreatDoor
open Go.RowKit
def dst (secs : List (List UInt8)) (full : Bool) (f : Int) : DS := ⟨secs, [], full, false, false, f⟩
/-- What Append answers, and what it leaves. -/
def appV (K : List Int) (secs : List (List UInt8)) (full : Bool) (at_ : Nat) (recs : List (List UInt8)) (rec : List UInt8) : Int × List (List UInt8) × Nat × List (List UInt8) :=
  if 65536 < rec.length then (6, secs, at_, recs) else if secs.length / 2 < at_ + secsN rec.length ∨ full = true then (5, secs, at_, recs)
  else (0, syncAll secs (placeL at_ (frameS K recs.length rec)), at_ + secsN rec.length, recs ++ [rec])
def AppPost (base : Nat) (own : Nat → Prop) (gd gl : Nat) (full : Bool) (r : Int × List (List UInt8) × Nat × List (List UInt8)) (w : World) (e : Ending) (w' : World) : Prop :=
  ∃ f, e = .returned (.int .i64 r.1) ∧ LAfter base own gd gl (dst r.2.1 full f) (r.2.2.1 : Int) r.2.2.2 w w'
section
variable {w : World} {base gd gl : Nat} {own : Nat → Prop} {secs : List (List UInt8)} {full : Bool} {f : Int} {at_ : Nat} {recs : List (List UInt8)}
theorem LG.lost (h : LG w base own gd gl (dst secs full f) (at_ : Int) recs) : w.cell? ⟨gl, 20, none⟩ = some (.bool false) := by
  obtain ⟨_, _, _, _, _, h⟩ := h; exact h.c20
set_option maxRecDepth 100000 in
set_option maxHeartbeats 1000000 in
theorem app_large (h : LG w base own gd gl (dst secs full f) (at_ : Int) recs) (A : Option Addr) (n c : Nat) (hn : 65536 < n) :
    Calls Tryz.prog 52 #[.pointer (some ⟨gl, 0, none⟩), .slice A n c] w fun e w' => e = .returned (.int .i64 6) ∧ w' = w := by
  have c20 := h.lost
  have hd : decide ((65536 : Int) < (n : Int)) = true := by simp; omega
  clear h hn
  go_enter Tryz.func52, Tryz.ntmps52
  go_wp2
  go_ret
  exact ⟨rfl, rfl⟩
/-- The head of a region: quiet operations and calls that turn nothing. -/
theorem app_room_some (h : LG w base own gd gl (dst secs full f) (at_ : Int) recs) (A : Option Addr) (n c : Nat) (hn : n ≤ 65536) (hat : at_ ≤ 65536) (hr : secs.length / 2 < at_ + secsN n) :
    Calls Tryz.prog 52 #[.pointer (some ⟨gl, 0, none⟩), .slice A n c] w fun e w' => e = .returned (.int .i64 5) ∧ w' = w.drew := by
  have c20 := h.lost
  have hd : decide ((65536 : Int) < (n : Int)) = false := by simp; omega
  obtain ⟨od, S, P, rv, vs, hx⟩ := h
  have HX : Hid (LGx w.drew base own od gd gl (dst secs full f) S P (at_ : Int) rv recs vs) := hx.below (below_drew (Below.refl _ _))
  have c18 : w.drew.cell? ⟨gl, 18, none⟩ = some (.int .i64 (at_ : Int)) := HX.out.c18
  have HN := Lib.hid hn
  obtain ⟨ar, har⟩ : ∃ ar, ar = secs.length / 2 := ⟨_, rfl⟩
  obtain ⟨sn, hsn⟩ : ∃ sn, sn = secsN n := ⟨_, rfl⟩
  have hs0 : (0 : Int) ≤ (sn : Int) := by omega
  have hs1 : (sn : Int) ≤ 2000 := by unfold secsN at hsn; omega
  have ha0 : (0 : Int) ≤ (at_ : Int) := by omega
  have ha1 : (at_ : Int) ≤ 65536 := by omega
  have ht : decide ((ar : Int) < (at_ : Int) + (sn : Int)) = true := by rw [← har, ← hsn] at hr; simp; omega
  have HAR := Lib.hid har
  have HSN := Lib.hid hsn
  clear hx hn hat hr har hsn
  go_enter Tryz.func52, Tryz.ntmps52
  go_wp2
  refine wp_quiet_tail 11 (by kernel_rfl) (by kernel_rfl) ?_
  simp only [List.take_succ_cons, List.take_zero, List.drop_succ_cons, List.drop_zero]
  obtain ⟨w7, hw7⟩ : ∃ w7, w.drew = w7 := ⟨_, rfl⟩
  rw [hw7] at HX c18 ⊢
  have HW7 := Lib.hid hw7
  clear hw7
  repeat (go_big_quiet_step (fail))
  go_big_quiet_want
  go_big_quiet_op
  refine ⟨_, sectors_any n (by have := HN.out; omega) w7, ?_⟩
  rw [← HSN.out]
  go_big_quiet_on
  repeat (go_big_quiet_step (fail))
  go_big_quiet_want
  go_big_quiet_op
  refine ⟨_, area_any HX.out, ?_⟩
  rw [show (dst secs full f).secs.length / 2 = ar from HAR.out.symm]
  go_big_quiet_on
  repeat (go_big_quiet_step (fail))
  refine wpQuiet_nil ?_
  go_wp2
  go_ret
  exact ⟨rfl, HW7.out.symm⟩
theorem reads_turns {w w' : World} {n : Nat} {A : Option Addr} {xs : List Value} {own : Nat → Prop} (h : Reads w w.heap.size 1 A n xs) (hT : Turns own w w') (hA : 0 < n → ∀ ad, A = some ad → ¬ own ad.block) : Reads w' w'.heap.size 1 A n xs := by
  refine ⟨h.1, fun h0 => ?_⟩
  obtain ⟨ad, e, hb, hc⟩ := h.2 h0
  refine ⟨ad, e, Nat.lt_of_lt_of_le hb hT.size, fun j u hu => (World.cell?_of_block ?_).trans (hc j u hu)⟩
  rw [block_of_add]
  exact hT.block _ hb (hA h0 ad e)
theorem heap_cell_new (w : World) (v : Value) : (w.alloc (.cells #[v] 96)).cell? ⟨w.heap.size, 0, none⟩ = some v := by
  rw [cell_new]; rfl
theorem AppPost.mk {base : Nat} {own : Nat → Prop} {gd gl : Nat} {full : Bool} {r r' : Int × List (List UInt8) × Nat × List (List UInt8)} {w w' : World} (hV : r = r') (f : Int) (h : LAfter base own gd gl (dst r'.2.1 full f) (r'.2.2.1 : Int) r'.2.2.2 w w') : AppPost base own gd gl full r w (.returned (.int .i64 r'.1)) w' := by
  subst hV
  exact ⟨f, rfl, h⟩
theorem LAfter.pre {base gd gl : Nat} {own : Nat → Prop} {s : DS} {p : Int} {recs : List (List UInt8)} {a b c : World} (hb : Below a.heap.size a b) (h : LAfter base own gd gl s p recs b c) : LAfter base own gd gl s p recs a c := by
  obtain ⟨own2, hL, hT, hO⟩ := h
  exact ⟨own2, hL, (Turns.of_below hb).then hT (fun _ h => .inl h), fun k hk => by
    rcases hO k hk with h | h
    · exact .inl h
    · exact .inr (Nat.le_trans hb.size h)⟩
theorem sync_v (secs : List (List UInt8)) (full : Bool) (pd : List (Nat × List UInt8)) (f : Int) : ((dst secs full 0).fu pd f).sync = (0, dst (syncAll secs pd) full (wrap64 (f - 1))) := by
  unfold DS.sync DS.op DS.fu dst
  simp
theorem put_full {w : World} {base gd gl : Nat} {own : Nat → Prop} {secs : List (List UInt8)} {f p : Int} {recs : List (List UInt8)} (h : LG w base own gd gl (dst secs true f) p recs) (K : List Int) (number at_ : Nat) (hnum : number < 4294967296)
    (A : Option Addr) (n c : Nat) (rec : List UInt8) (hr : Reads w w.heap.size 1 A n (bvs rec)) (hA : 0 < n → ∀ ad, A = some ad → ad.block < w.heap.size ∧ ¬ own ad.block) (hc : n ≤ c) (hn : n ≤ 65536) (hat : at_ + secsN n ≤ secs.length) (hkt : KT w K) :
    Calls Tryz.prog 90 #[.pointer (some ⟨gl, 0, none⟩), .int .u64 0, .agg (bvs zero16).toArray, .int .i64 (at_ : Int), .int .u64 (number : Int), .slice A n c] w fun e w' => ∃ f, e = .returned (.int .i64 5) ∧ LAfter base own gd gl (dst secs true f) p recs w w' := by
  refine (put_any h rfl rfl (by simp [dst]) K number at_ hnum A n c rec hr hA hc hn hat hkt).mono ?_
  rintro e w' ⟨f', ⟨_, h1, h2⟩ | ⟨h0, _⟩⟩
  · exact ⟨f', h1, h2⟩
  · cases h0
theorem put_ok {w : World} {base gd gl : Nat} {own : Nat → Prop} {secs : List (List UInt8)} {f p : Int} {recs : List (List UInt8)} (h : LG w base own gd gl (dst secs false f) p recs) (K : List Int) (number at_ : Nat) (hnum : number < 4294967296)
    (A : Option Addr) (n c : Nat) (rec : List UInt8) (hr : Reads w w.heap.size 1 A n (bvs rec)) (hA : 0 < n → ∀ ad, A = some ad → ad.block < w.heap.size ∧ ¬ own ad.block) (hc : n ≤ c) (hn : n ≤ 65536) (hat : at_ + secsN n ≤ secs.length) (hkt : KT w K) :
    Calls Tryz.prog 90 #[.pointer (some ⟨gl, 0, none⟩), .int .u64 0, .agg (bvs zero16).toArray, .int .i64 (at_ : Int), .int .u64 (number : Int), .slice A n c] w fun e w' => ∃ f, e = .returned (.int .i64 0) ∧ LAfter base own gd gl ((dst secs false 0).fu (placeL at_ (frameS K number rec)) f) p recs w w' := by
  refine (put_any h rfl rfl (by simp [dst]) K number at_ hnum A n c rec hr hA hc hn hat hkt).mono ?_
  rintro e w' ⟨f', ⟨h0, _⟩ | ⟨_, h1, h2⟩⟩
  · cases h0
  · exact ⟨f', h1, h2⟩
/-- The records behind an append that was stored. -/
theorem LGx.pushed {w w1 : World} {base gd gl : Nat} {own od : Nat → Prop} {s : DS} {S P rv v' u : Value} {p : Int} {recs : List (List UInt8)} {vs : List Value} {r : List UInt8} {B : Nat}
    (h : LGx w base own od gd gl s S P p rv recs vs) (hL : OwnLL w1 base v' (recs ++ [r]) (vs ++ [u])) (hg : w.grownBy w1 rv.ownBlock) (hv : v'.ownBlock = rv.ownBlock ∨ v'.ownBlock = some w.heap.size) (hu : ∀ k, u.ownBlock = some k → B ≤ k ∧ k < w.heap.size) (hB : ∀ k, own k → k < B) (hBw : B ≤ w.heap.size) :
    ∃ own', LGx (w1.setCell ⟨gl, 19, none⟩ v') base own' od gd gl s S P p v' (recs ++ [r]) (vs ++ [u]) ∧ Turns own w (w1.setCell ⟨gl, 19, none⟩ v') ∧ ∀ k, own' k → own k ∨ B ≤ k := by
  have hrl : ∀ k, rv.ownBlock = some k → own k ∧ ¬ od k ∧ k ≠ gl := h.ror
  have ho : ∀ k, own k → rv.ownBlock ≠ some k → w1.heap[k]? = w.heap[k]? := fun k hk hne => hg.block k (h.bnd k hk).2 (fun e => hne e.symm)
  have hnd : ∀ k, od k → rv.ownBlock ≠ some k := fun k hk e => (hrl k e).2.1 hk
  have hgl : rv.ownBlock ≠ some gl := fun e => (hrl gl e).2.2 rfl
  have hblk := (ho gl h.ogl hgl).trans h.blk
  have hf := Frm.setCell w1 gl 19 v'
  have hsz : (w1.setCell ⟨gl, 19, none⟩ v').heap.size = w1.heap.size := by simp [World.setCell]
  have keep : ∀ k, k < w1.heap.size → k ≠ gl → (w1.setCell ⟨gl, 19, none⟩ v').heap[k]? = w1.heap[k]? := fun k hk hn => hf.block k hk (by simpa using hn)
  have lt1 : ∀ k, own k → k < w1.heap.size := fun k hk => Nat.lt_of_lt_of_le (h.bnd k hk).2 hg.size
  have kod : ∀ k, od k → (w1.setCell ⟨gl, 19, none⟩ v').heap[k]? = w.heap[k]? := fun k hk => (keep k (lt1 k (h.sub k hk)) (fun e => h.dgl (e ▸ hk))).trans (ho k (h.sub k hk) (hnd k hk))
  have hlt : ∀ k, v'.ownBlock = some k → k < w1.heap.size := fun k hk => (World.ownsRow.lt hL.row k hk).2
  have hvgl : ∀ k, v'.ownBlock = some k → k ≠ gl := fun k hk => by
    rcases hv with e | e
    · exact (hrl k (e ▸ hk)).2.2
    · have h1 := (h.bnd gl h.ogl).2
      rw [hk] at e
      injection e with e
      omega
  have hvod : ∀ k, v'.ownBlock = some k → ¬ od k := fun k hk hk' => by
    rcases hv with e | e
    · exact (hrl k (e ▸ hk)).2.1 hk'
    · have h1 := (h.bnd k (h.sub k hk')).2
      rw [hk] at e
      injection e with e
      omega
  have hum : ∀ x ∈ vs ++ [u], ∀ k, x.ownBlock = some k → (own k ∨ B ≤ k) ∧ ¬ od k ∧ k ≠ gl ∧ k < w.heap.size := fun x hx k hk => by
    rcases List.mem_append.1 hx with hx | hx
    · have := h.mor x hx k hk
      exact ⟨.inl this.1, this.2.1, this.2.2, (h.bnd k this.1).2⟩
    · simp at hx
      subst hx
      have h1 := hu k hk
      exact ⟨.inr h1.1, fun e => by have := hB k (h.sub k e); omega, fun e => by have := hB gl h.ogl; omega, h1.2⟩
  refine ⟨fun k => own k ∨ v'.ownBlock = some k ∨ u.ownBlock = some k, ⟨⟨h.dsk.ok, (kod gd h.dsk.ownG).trans h.dsk.blk, row_at h.dsk.rowS (fun k hk => kod k (h.dsk.ownS k hk)), row_at h.dsk.rowP (fun k hk => kod k (h.dsk.ownP k hk)), h.dsk.ownG, h.dsk.ownS, h.dsk.ownP, fun k hk => ⟨(h.dsk.bnd k hk).1, by rw [hsz]; exact lt1 k (h.sub k hk)⟩, h.dsk.gS, h.dsk.gP, h.dsk.sP⟩, fun k hk => .inl (h.sub k hk), ?_, .inl h.ogl, h.dgl, ?_, ?_, ?_, ?_⟩, ?_, ?_⟩
  · rw [← logC_rec gd p rv v']
    exact heap_setCell_same w1 gl 19 _ _ _ hblk
  · exact lst_at hL (fun k hk => keep k (hlt k hk) (hvgl k hk)) (fun x hx k hk => keep k (Nat.lt_of_lt_of_le (hum x hx k hk).2.2.2 hg.size) (hum x hx k hk).2.2.1)
  · exact fun k hk => ⟨.inr (.inl hk), hvod k hk, hvgl k hk⟩
  · intro x hx k hk
    refine ⟨?_, (hum x hx k hk).2.1, (hum x hx k hk).2.2.1⟩
    rcases List.mem_append.1 hx with hx' | hx'
    · exact .inl (h.mor x hx' k hk).1
    · simp at hx'; subst hx'; exact .inr (.inr hk)
  · intro k hk
    rw [hsz]
    rcases hk with hk | hk | hk
    · exact ⟨(h.bnd k hk).1, lt1 k hk⟩
    · exact World.ownsRow.lt hL.row k hk
    · have h1 := hum u (by simp) k hk
      refine ⟨?_, Nat.lt_of_lt_of_le h1.2.2.2 hg.size⟩
      rcases h1.1 with e | e
      · exact (h.bnd k e).1
      · have h2 := (h.bnd gl h.ogl).1
        have h3 := hB gl h.ogl
        omega
  · refine ⟨hf.os.trans hg.os, hf.tape.trans hg.tape, hf.output.trans hg.output, Nat.le_trans hg.size hf.size, fun k hk hn => ?_⟩
    rw [keep k (Nat.lt_of_lt_of_le hk hg.size) (fun e => hn (e ▸ h.ogl))]
    exact hg.block k hk (fun e => hn (hrl k e.symm).1)
  · intro k hk
    rcases hk with hk | hk | hk
    · exact .inl hk
    · rcases hv with e | e
      · exact .inl (hrl k (e ▸ hk)).1
      · rw [hk] at e
        injection e with e
        exact .inr (by omega)
    · exact .inr (hu k hk).1
set_option maxRecDepth 100000 in
set_option maxHeartbeats 4000000 in
theorem app_room (h : LG w base own gd gl (dst secs full f) (at_ : Int) recs) (K : List Int) (A : Option Addr) (n c : Nat) (rec : List UInt8) (hr : Reads w w.heap.size 1 A n (bvs rec)) (hA : 0 < n → ∀ ad, A = some ad → ad.block < w.heap.size ∧ ¬ own ad.block) (hc : n ≤ c) (hn : n ≤ 65536) (hrl : recs.length ≤ 1000000) (hkt : KT w K) (hrm : at_ + secsN n ≤ secs.length / 2) :
    Calls Tryz.prog 52 #[.pointer (some ⟨gl, 0, none⟩), .slice A n c] w (AppPost base own gd gl full (appV K secs full at_ recs rec) w) := by
  have hl : rec.length = n := by have := hr.1; rw [bvs_length] at this; omega
  have c20 := h.lost
  have hd : decide ((65536 : Int) < (n : Int)) = false := by simp; omega
  obtain ⟨od, S, P, rv, vs, hx⟩ := h
  have HX : Hid (LGx w.drew base own od gd gl (dst secs full f) S P (at_ : Int) rv recs vs) := hx.below (below_drew (Below.refl _ _))
  have c18 : w.drew.cell? ⟨gl, 18, none⟩ = some (.int .i64 (at_ : Int)) := HX.out.c18
  have HN := Lib.hid hn
  have hmx : secs.length ≤ 65536 := hx.dsk.ok.max
  obtain ⟨ar, har⟩ : ∃ ar, ar = secs.length / 2 := ⟨_, rfl⟩
  obtain ⟨sn, hsn⟩ : ∃ sn, sn = secsN n := ⟨_, rfl⟩
  have hs0 : (0 : Int) ≤ (sn : Int) := by omega
  have hs1 : (sn : Int) ≤ 2000 := by unfold secsN at hsn; omega
  have ha0 : (0 : Int) ≤ (at_ : Int) := by omega
  have ha1 : (at_ : Int) ≤ 65536 := by omega
  have ht : decide ((ar : Int) < (at_ : Int) + (sn : Int)) = false := by rw [← har, ← hsn] at hrm; simp; omega
  have HAR := Lib.hid har
  have HSN := Lib.hid hsn
  have HRM := Lib.hid hrm
  have HL := Lib.hid hl
  have HR := Lib.hid hr
  have HA := Lib.hid hA
  have HK := Lib.hid hkt
  have HC := Lib.hid hc
  have HRL := Lib.hid hrl
  have hc0 : (n : Int) ≤ 65536 := by omega
  clear hx hn hrm har hsn hl hr hA hkt hc hmx
  go_enter Tryz.func52, Tryz.ntmps52
  go_wp2
  refine wp_quiet_tail 11 (by kernel_rfl) (by kernel_rfl) ?_
  simp only [List.take_succ_cons, List.take_zero, List.drop_succ_cons, List.drop_zero]
  obtain ⟨w7, hw7⟩ : ∃ w7, w.drew = w7 := ⟨_, rfl⟩
  have HB7 : Hid (Below w.heap.size w w7) := by show Below _ _ _; rw [← hw7]; exact below_drew (Below.refl _ _)
  rw [hw7] at HX c18 ⊢
  clear hw7
  repeat (go_big_quiet_step (fail))
  go_big_quiet_want
  go_big_quiet_op
  refine ⟨_, sectors_any n (by have := HN.out; omega) w7, ?_⟩
  rw [← HSN.out]
  go_big_quiet_on
  repeat (go_big_quiet_step (fail))
  go_big_quiet_want
  go_big_quiet_op
  refine ⟨_, area_any HX.out, ?_⟩
  rw [show (dst secs full f).secs.length / 2 = ar from HAR.out.symm]
  go_big_quiet_on
  repeat (go_big_quiet_step (fail))
  refine wpQuiet_nil ?_
  go_wp2
  obtain ⟨AR, cR, hrv, hcR, _⟩ := (show OwnL w7 base rv recs from ⟨vs, HX.out.lst⟩).lists
  subst hrv
  have HX8 : Hid (LGx w7.drew base own od gd gl (dst secs full f) S P (at_ : Int) (.slice AR recs.length cR) recs vs) := HX.out.below (below_drew (Below.refl _ _))
  have d1 : w7.drew.cell? ⟨gl, 1, none⟩ = some (.int .u64 0) := HX8.out.c1
  have d18 : w7.drew.cell? ⟨gl, 18, none⟩ = some (.int .i64 (at_ : Int)) := HX8.out.c18
  have d19 : w7.drew.cell? ⟨gl, 19, none⟩ = some (.slice AR recs.length cR) := HX8.out.c19
  have hrlI : (recs.length : Int) ≤ 1000000 := by omega
  obtain ⟨zs, hzs⟩ : ∃ zs : Array Value, zs = (bvs zero16).toArray := ⟨_, rfl⟩
  have HZ := Lib.hid hzs
  have HZS : Hid (zs.size = 16) := by show _ = _; rw [hzs]; rfl
  have HSA : Hid (w7.drew.rangeAt gl 2 zs.toList) := by show World.rangeAt _ _ _ _; rw [hzs, List.toList_toArray]; exact HX8.out.salt
  clear hzs hcR hrl
  refine wp_quiet_tail 20 (by kernel_rfl) (by kernel_rfl) ?_
  simp only [List.take_succ_cons, List.take_zero, List.drop_succ_cons, List.drop_zero]
  obtain ⟨w8, hw8⟩ : ∃ w8, w7.drew = w8 := ⟨_, rfl⟩
  have HB8 : Hid (Below w.heap.size w w8) := by show Below _ _ _; rw [← hw8]; exact below_drew HB7.out
  rw [hw8] at HX8 d1 d18 d19 HSA ⊢
  clear hw8 c18 c20
  repeat (go_big_quiet_step (fail))
  go_big_quiet_want
  refine quiet_load_arr _ _ rfl gl 2 rfl zs _ (by with_reducible exact HSA.out) Tryz.underlying188 rfl (by rw [HZS.out]; kernel_rfl) ?_
  go_simp
  go_big_quiet_on
  repeat (go_big_quiet_step (fail))
  refine wpQuiet_nil ?_
  have hLG8 : Hid (LG w8 base own gd gl (dst secs full f) (at_ : Int) recs) := ⟨od, S, P, _, vs, HX8.out⟩
  cases hfull : full with
  | true =>
    subst hfull
    have HV : Hid (appV K secs true at_ recs rec = (5, secs, at_, recs)) := by
      show _ = _
      unfold appV
      rw [if_neg (by have := HL.out; have := HN.out; omega), if_pos (.inr rfl)]
    go_wp2_with (first
      | (go_at_call 90; rw [HZ.out]; go_must (refine (put_full hLG8.out K recs.length at_ (by have := HRL.out; omega) A n c rec (reads_bel HR.out HB8.out) (fun h0_ ad e_ => ⟨Nat.lt_of_lt_of_le (HA.out h0_ ad e_).1 HB8.out.size, (HA.out h0_ ad e_).2⟩) HC.out HN.out (by have := HRM.out; omega) (HK.out.bel HB8.out)).mono ?_; rintro e w9 ⟨f9, rfl, own9, ⟨od9, S9, P9, rv9, vs9, hx9⟩, hT9, hO9⟩; have H9 := Lib.hid hx9; have T9 := Lib.hid (And.intro hT9 hO9); clear hx9 hT9 hO9))
      | (go_at_call 91; go_must (refine (done_any H9.out 5 rfl).mono ?_; rintro e w10 ⟨rfl, hx10, hT10⟩; have H10 := Lib.hid (And.intro hx10 hT10); clear hx10 hT10)))
    go_ret
    refine AppPost.mk HV.out f9 (LAfter.pre HB8.out ?_)
    exact LAfter.trans ⟨od9, S9, P9, rv9, vs9, H9.out⟩ T9.out.1 T9.out.2 ⟨own9, ⟨od9, S9, P9, rv9, vs9, H10.out.1⟩, H10.out.2, fun _ h => .inl h⟩
  | false =>
    subst hfull
    have HV : Hid (appV K secs false at_ recs rec = (0, syncAll secs (placeL at_ (frameS K recs.length rec)), at_ + secsN n, recs ++ [rec])) := by
      show _ = _
      unfold appV
      rw [if_neg (by have := HL.out; have := HN.out; omega), if_neg (by have := HL.out; have := HRM.out; rw [HL.out]; simp; omega), HL.out]
    go_wp2_with (first
      | (go_at_call 90; rw [HZ.out]; go_must (refine (put_ok hLG8.out K recs.length at_ (by have := HRL.out; omega) A n c rec (reads_bel HR.out HB8.out) (fun h0_ ad e_ => ⟨Nat.lt_of_lt_of_le (HA.out h0_ ad e_).1 HB8.out.size, (HA.out h0_ ad e_).2⟩) HC.out HN.out (by have := HRM.out; omega) (HK.out.bel HB8.out)).mono ?_; rintro e w9 ⟨f9, rfl, own9, ⟨od9, S9, P9, rv9, vs9, hx9⟩, hT9, hO9⟩; have H9 := Lib.hid hx9; have T9 := Lib.hid (And.intro hT9 hO9); have e0 := hx9.c0; clear hx9 hT9 hO9))
      | (go_at_call 92; go_must (refine (Sync_any H9.out.dsk).mono ?_; rintro e w10 ⟨rfl, hA10⟩; rw [sync_v] at hA10 ⊢; have hL10 := H9.out.disk hA10; obtain ⟨own10, ⟨od10, S10, P10, rv10, vs10, hx10⟩, hT10, hO10⟩ := hL10; have H10 := Lib.hid hx10; have T10 := Lib.hid (And.intro hT10 hO10); clear hx10 hT10 hO10 hA10)))
    have HX10 : Hid (LGx w10.drew base own10 od10 gd gl (dst (syncAll secs (placeL at_ (frameS K recs.length rec))) false (wrap64 (f9 - 1))) S10 P10 (at_ : Int) rv10 recs vs10) := H10.out.below (below_drew (Below.refl _ _))
    have g18 : w10.drew.cell? ⟨gl, 18, none⟩ = some (.int .i64 (at_ : Int)) := HX10.out.c18
    have hfz := frozen_row HX10.out.blk
    clear d1 d18 d19 e0
    refine wp_quiet_tail 10 (by kernel_rfl) (by kernel_rfl) ?_
    simp only [List.take_succ_cons, List.take_zero, List.drop_succ_cons, List.drop_zero]
    obtain ⟨w11, hw11⟩ : ∃ w11, w10.drew = w11 := ⟨_, rfl⟩
    have HB11 : Hid (Below w10.heap.size w10 w11) := by show Below _ _ _; rw [← hw11]; exact below_drew (Below.refl _ _)
    rw [hw11] at HX10 g18 hfz ⊢
    clear hw11
    repeat (go_big_quiet_step (fail))
    go_big_quiet_want
    go_big_quiet_op
    refine ⟨_, sectors_any n (by have := HN.out; omega) w11, ?_⟩
    rw [← HSN.out]
    go_big_quiet_on
    repeat (go_big_quiet_step (fail))
    refine wpQuiet_nil ?_
    go_wp2
    obtain ⟨w12, hw12⟩ : ∃ w12, w11.setCell ⟨gl, 18, none⟩ (.int .i64 ((at_ : Int) + (sn : Int))) = w12 := ⟨_, rfl⟩
    have H12 := HX10.out.set 18 (.int .i64 ((at_ : Int) + (sn : Int))) ((at_ : Int) + (sn : Int)) rfl
    rw [hw12] at H12 ⊢
    have HX12 := Lib.hid H12.1
    have HT12 := Lib.hid H12.2
    clear H12 hw12 g18 hfz
    have HT : Hid (Turns own w w12 ∧ ∀ k, own10 k → own k ∨ w.heap.size ≤ k) := by
      show _ ∧ _
      have t8 := Turns.of_below (own := own) HB8.out
      have t9 := t8.then T9.out.1 (fun _ h => .inl h)
      have o9 : ∀ k, own9 k → own k ∨ w.heap.size ≤ k := fun k hk => by
        rcases T9.out.2 k hk with h | h
        · exact .inl h
        · exact .inr (Nat.le_trans t8.size h)
      have t10 := t9.then T10.out.1 o9
      have o10 : ∀ k, own10 k → own k ∨ w.heap.size ≤ k := fun k hk => by
        rcases T10.out.2 k hk with h | h
        · exact o9 k h
        · exact .inr (Nat.le_trans t9.size h)
      exact ⟨(t10.then (Turns.of_below (own := own10) HB11.out) o10).then HT12.out o10, o10⟩
    obtain ⟨AR2, cR2, hrv2, hcR2, _⟩ := (show OwnL w12 base rv10 recs from ⟨vs10, HX12.out.lst⟩).lists
    subst hrv2
    have RR := Lib.hid (reads_turns HR.out HT.out.1 (fun h0_ ad e_ => (HA.out h0_ ad e_).2))
    have C19 := Lib.hid HX12.out.c19
    have GLT := Lib.hid (HX12.out.bnd gl HX12.out.ogl).2
    clear hcR2
    refine AnyCZ.start [11] (fun w' => w'.cell? ⟨gl, 19, none⟩ = some (.slice AR2 recs.length cR2)) (by kernel_rfl) rfl ?_
    intro w13 hb13
    have HB13 := Lib.hid hb13
    clear hb13
    have CB : Hid (∀ w', Below w12.heap.size w12 w' → w'.cell? ⟨gl, 19, none⟩ = some (.slice AR2 recs.length cR2)) := fun w' hw' => (hw'.cell (p := ⟨gl, 19, none⟩) GLT.out).trans C19.out
    apply AnyCZ.take (i := 0) rfl (by kernel_rfl) (by kernel_rfl) rfl
    · intro w' hC K hK
      go_wp2
      exact hK
    · rfl
    apply AnyCZ.take (i := 1) rfl (by kernel_rfl) (by kernel_rfl) rfl
    · intro w' hC K hK
      go_wp2
      exact hK
    · rfl
    apply AnyCZ.take (i := 2) rfl (by kernel_rfl) (by kernel_rfl) rfl
    · intro w' hC K hK
      go_wp2
      exact hK
    · rfl
    apply AnyCZ.take (i := 3) rfl (by kernel_rfl) (by kernel_rfl) rfl
    · intro w' hC K hK
      go_wp2
      exact hK
    · rfl
    apply AnyCZ.take (i := 4) rfl (by kernel_rfl) (by kernel_rfl) rfl
    · intro w' hC K hK
      have cc := hC
      go_wp2
      exact hK
    · rfl
    apply AnyCZ.take (i := 5) rfl (by kernel_rfl) (by kernel_rfl) rfl
    · intro w' hC K hK
      go_wp2
      exact hK
    · rfl
    apply AnyCZ.solo (i := 6) rfl (by kernel_rfl) (CB.out _ HB13.out)
    go_wp2_with (go_at_call 93; go_must (refine (Clone_any A n c rec w13 (reads_bel RR.out HB13.out) (by have := HN.out; omega)).mono ?_; rintro e w14 ⟨u, rfl, hu, hb14⟩; have HU := Lib.hid hu; have HB14 := Lib.hid (HB13.out.trans (hb14.mono HB13.out.size)); have HB14' := Lib.hid hb14; clear hb14 hu))
    refine ⟨rfl, ?_⟩
    obtain ⟨Au, cu, hue, _, _⟩ := own8_form HU.out
    subst hue
    apply AnyCZ.solo (i := 7) rfl (by kernel_rfl) (CB.out _ HB14.out)
    go_wp2
    refine ⟨rfl, ?_⟩
    have HB15 : Hid (Below w12.heap.size w12 (w14.alloc (.cells #[.slice Au rec.length cu] 96))) := by show Below _ _ _; exact HB14.out.alloc HB14.out.size _
    apply AnyCZ.solo (i := 8) rfl (by kernel_rfl) (CB.out _ HB15.out)
    have LL13 : Hid (OwnLL w13 base (.slice AR2 recs.length cR2) recs vs10) := (HX12.out.below HB13.out).lst
    refine appLL (g := w14.heap.size) (c := 1) (wr := w13) rfl rfl rfl rfl LL13.out (heap_cell_new w14 _) (HB14'.out.alloc HB14'.out.size _) (own8_below HU.out ((Below.refl _ _).alloc (Nat.le_refl _) _)) (by have := HRL.out; omega) (Nat.le_trans (HX12.out.bnd gl HX12.out.ogl).1 (by have h_ := GLT.out; have h2_ := HB13.out.size; omega)) ?_
    intro v16 w16 hL16 hg16 hv16
    have PU := (HX12.out.below HB15.out).pushed hL16 hg16 hv16 (u := .slice Au rec.length cu) (B := w13.heap.size) (fun k hk => by
      have h_ := own8_lt HU.out k hk
      exact ⟨h_.1, by simp; omega⟩) (fun k hk => by
      have h_ := (HX12.out.bnd k hk).2
      have h2_ := HB13.out.size
      omega) (by have h_ := HB14'.out.size; simp; omega)
    obtain ⟨own17, hX17, hT17, hO17⟩ := PU
    obtain ⟨A16, c16, hve, _, _⟩ := (show OwnL w16 base v16 (recs ++ [rec]) from ⟨_, hL16⟩).lists
    subst hve
    have hl1 : (recs ++ [rec]).length = recs.length + 1 := by simp
    rw [hl1] at hX17 hT17 ⊢
    clear hl1
    have e16 : w16.heap[gl]? = (w14.alloc (.cells #[.slice Au rec.length cu] 96)).heap[gl]? := hg16.block gl (by have h_ := GLT.out; have h2_ := HB15.out.size; omega) (fun e => (HX12.out.ror gl e.symm).2.2 rfl)
    have C16 : Hid (w16.cell? ⟨gl, 19, none⟩ = some (.slice AR2 recs.length cR2)) := (World.cell?_of_block (a := ⟨gl, 19, none⟩) e16).trans (CB.out _ HB15.out)
    have hfz16 : w16.frozen? ⟨gl, 19, none⟩ = false := (World.frozen?_of_block (a := ⟨gl, 19, none⟩) e16).trans (frozen_row (HX12.out.below HB15.out).blk 19)
    have cc16 := C16.out
    have HX17 := Lib.hid hX17
    have HT17 := Lib.hid (And.intro hT17 hO17)
    clear hX17 hT17 hO17 hL16 hg16 hv16 e16
    go_wp2
    refine ⟨rfl, ?_⟩
    apply AnyCZ.take (i := 9) rfl (by kernel_rfl) (by kernel_rfl) rfl
    · intro w' hC K hK
      go_wp2
      exact hK
    · rfl
    apply AnyCZ.take (i := 10) rfl (by kernel_rfl) (by kernel_rfl) rfl
    · intro w' hC K hK
      go_wp2
      exact hK
    · rfl
    apply AnyCZ.soloW (i := 11) rfl (by kernel_rfl) C16.out
    go_wp2
    refine ⟨rfl, ?_⟩
    apply AnyW.done (by kernel_rfl)
    go_wp2
    go_ret
    refine AppPost.mk HV.out (wrap64 (f9 - 1)) ?_
    have e2 : ((at_ + secsN n : Nat) : Int) = (at_ : Int) + (sn : Int) := by rw [← HSN.out]; omega
    show LAfter base own gd gl _ ((at_ + secsN n : Nat) : Int) _ _ _
    rw [e2]
    have t15 : Turns own w (w14.alloc (.cells #[.slice Au rec.length cu] 96)) := HT.out.1.then (Turns.of_below (own := own10) HB15.out) HT.out.2
    refine ⟨own17, ⟨_, _, _, _, _, HX17.out⟩, t15.then HT17.out.1 HT.out.2, fun k hk => ?_⟩
    rcases HT17.out.2 k hk with h_ | h_
    · exact HT.out.2 k h_
    · exact .inr (by have h1_ := HT.out.1.size; have h2_ := HB13.out.size; omega)
end
end Go.Proofs.YtbcpmnnlhdgbhaaGreatDoor

namespace Go.Proofs.YtbcpmnnlhdgbhaaGreatDoor
open Go.RowKit
section
variable {w : World} {base gd gl : Nat} {own : Nat → Prop} {secs : List (List UInt8)} {full : Bool} {f : Int} {at_ : Nat} {recs : List (List UInt8)}
theorem Append_any (h : LG w base own gd gl (dst secs full f) (at_ : Int) recs) (K : List Int) (A : Option Addr) (n c : Nat) (rec : List UInt8) (hr : Reads w w.heap.size 1 A n (bvs rec)) (hA : 0 < n → ∀ ad, A = some ad → ad.block < w.heap.size ∧ ¬ own ad.block) (hc : n ≤ c) (hrl : recs.length ≤ 1000000) (hat : at_ ≤ 65536) (hkt : KT w K) :
    Calls Tryz.prog 52 #[.pointer (some ⟨gl, 0, none⟩), .slice A n c] w (AppPost base own gd gl full (appV K secs full at_ recs rec) w) := by
  have hl : rec.length = n := by have := hr.1; rw [bvs_length] at this; omega
  by_cases hn : n ≤ 65536
  · by_cases hrm : at_ + secsN n ≤ secs.length / 2
    · exact app_room h K A n c rec hr hA hc hn hrl hkt hrm
    · have hV : appV K secs full at_ recs rec = (5, secs, at_, recs) := by
        unfold appV
        rw [if_neg (by omega), if_pos (.inl (by rw [hl]; omega))]
      refine (app_room_some h A n c hn hat (by omega)).mono ?_
      rintro e w' ⟨rfl, rfl⟩
      exact AppPost.mk hV f (LAfter.of_below h (below_drew (Below.refl _ _)))
  · have hV : appV K secs full at_ recs rec = (6, secs, at_, recs) := by
      unfold appV
      rw [if_pos (by omega)]
    refine (app_large h A n c (by omega)).mono ?_
    rintro e w' ⟨rfl, rfl⟩
    exact AppPost.mk hV f (LAfter.of_below h (Below.refl _ _))
end
theorem made_lists (n : Nat) (hn : n ≤ 1000000) (w : World) : (Instr.makeSlice 100 (.int .i64 (n : Int)) (.int .i64 (n : Int))).run Tryz.prog w = .ok (.slice (some ⟨w.heap.size, 0, none⟩) n n) (w.alloc (.cells (List.replicate n (Value.slice none 0 0)).toArray 96)) := by
  obtain ⟨i0, hi0, hz0, hz1, hz2⟩ := info_parts slinfo
  have h1 := run_makeSlice (P := Tryz.prog) (w := w) 100 _ i0 _ Tryz.underlying100 hi0 hz0 .i64 .i64 (n : Int) (n : Int) (by omega) (Int.le_refl _) (by rw [hz1]; simp; omega) (by rw [hz2]; omega) (by omega)
  rw [hz1] at h1
  have e : madeCells (Value.slice none 0 0).cells (n * 1) = (List.replicate n (Value.slice none 0 0)).toArray := by
    apply Array.ext_getElem?
    intro i
    rw [← Array.getElem?_toList, show (Value.slice none 0 0).cells = #[.slice none 0 0] from rfl, toList_madeCells_one, Nat.mul_one, List.getElem?_toArray]
  rw [Nat.mul_one] at e
  have h2 := h1
  simp only [Int.toNat_natCast, Nat.mul_one, e] at h2
  exact h2
/-- A row of lists that is being filled. -/
structure PartL (w : World) (base go n : Nat) (ls : List (List UInt8)) (vs : List Value) : Prop where
  row : w.heap[go]? = some (.cells (vs ++ List.replicate (n - vs.length) (Value.slice none 0 0)).toArray 96 (0, 0))
  low : base ≤ go
  each : ∀ (i : Nat) u, vs[i]? = some u → ∃ h : i < ls.length, Own8 w base u ls[i] ∧ u.ownBlock ≠ some go
  apart : ∀ (i j : Nat) (u u' : Value), i < j → vs[i]? = some u → vs[j]? = some u' → u.ownBlock = none ∨ u.ownBlock ≠ u'.ownBlock
theorem PartL.all {w : World} {base go n : Nat} {ls : List (List UInt8)} {vs : List Value} (h : PartL w base go n ls vs) (hl : ls.length = n) (hv : vs.length = n) (hn : n ≤ 1000000) : OwnL w base (.slice (some ⟨go, 0, none⟩) n n) ls := by
  subst hl
  refine ⟨vs, ⟨by omega, .inr ⟨go, ls.length, _, rfl, h.low, h.row, Nat.le_refl _, by simp [maxLen]; omega, by simp; omega, ?_⟩⟩, fun i hi => ?_, h.apart⟩
  · rw [hv]; simp [← hv]
  · have hi' : i < vs.length := by omega
    obtain ⟨_, h1, h2⟩ := h.each i _ (List.getElem?_eq_getElem hi')
    exact ⟨_, List.getElem?_eq_getElem hi', h1, .inr h2⟩
theorem PartL.push {w w1 : World} {base go n : Nat} {ls : List (List UInt8)} {vs : List Value} {u : Value} (h : PartL w base go n ls vs) (hk : vs.length < n) (hlt : vs.length < ls.length) (hb : Below w.heap.size w w1) (hu : Own8 w1 w.heap.size u ls[vs.length]) :
    PartL (w1.setCell ⟨go, vs.length, none⟩ u) base go n ls (vs ++ [u]) := by
  have hgo : go < w.heap.size := lt_of_heap h.row
  have hrow1 := heap_below h.row hb
  have keep : ∀ k, k ≠ go → (w1.setCell ⟨go, vs.length, none⟩ u).heap[k]? = w1.heap[k]? := fun k hk => Below.heap_setCell w1 ⟨go, vs.length, none⟩ u k hk
  have huk : ∀ k, u.ownBlock = some k → w.heap.size ≤ k := fun k hk => (own8_lt hu k hk).1
  refine ⟨?_, h.low, ?_, ?_⟩
  · rw [heap_setCell_same w1 go vs.length _ _ u hrow1]
    congr 2
    rw [List.setIfInBounds_toArray, List.set_append_right _ _ (Nat.le_refl _), Nat.sub_self]
    have e : n - vs.length = (n - (vs ++ [u]).length) + 1 := by simp; omega
    rw [e, List.replicate_succ]
    simp
  · intro i x hx
    rcases Nat.lt_or_ge i vs.length with hi | hi
    · rw [List.getElem?_append_left hi] at hx
      obtain ⟨h1, h2, h3⟩ := h.each i x hx
      refine ⟨h1, row_at (own8_below h2 hb) (fun k hk => keep k (fun e => h3 (by rw [hk, e]))), h3⟩
    · have hie : i = vs.length := by
        have := (List.getElem?_eq_some_iff.1 hx).1
        simp at this; omega
      subst hie
      have hxu : x = u := by simpa using hx.symm
      subst hxu
      refine ⟨hlt, row_at (own8_base hu (Nat.le_trans h.low (Nat.le_of_lt hgo))) (fun k hk => keep k (fun e => by have := huk k hk; omega)), fun e => by have := huk go e; omega⟩
  · intro i j x x' hij hx hx'
    have hj : j < (vs ++ [u]).length := (List.getElem?_eq_some_iff.1 hx').1
    rcases Nat.lt_or_ge j vs.length with hj' | hj'
    · rw [List.getElem?_append_left (by omega)] at hx
      rw [List.getElem?_append_left hj'] at hx'
      exact h.apart i j x x' hij hx hx'
    · have hje : j = vs.length := by simp at hj; omega
      subst hje
      have hxu : x' = u := by simpa using hx'.symm
      subst hxu
      rw [List.getElem?_append_left (by omega)] at hx
      obtain ⟨_, h2, _⟩ := h.each i x hx
      cases hxb : x.ownBlock with
      | none => exact .inl rfl
      | some k =>
        refine .inr fun e => ?_
        have h3 := (own8_lt h2 k hxb).2
        have h4 := huk k e.symm
        omega
def RecPost (recs : List (List UInt8)) (w : World) (e : Ending) (w' : World) : Prop := ∃ v, e = .returned v ∧ OwnL w' w.heap.size v recs ∧ Below w.heap.size w w'
set_option maxRecDepth 100000 in
set_option maxHeartbeats 2000000 in
theorem Records_any {w : World} {base gd gl : Nat} {own : Nat → Prop} {s : DS} {p : Int} {recs : List (List UInt8)} (h : LG w base own gd gl s p recs) (hn : recs.length ≤ 1000000) (hsz : ∀ l ∈ recs, l.length ≤ 65536) :
    Calls Tryz.prog 78 #[.pointer (some ⟨gl, 0, none⟩)] w (RecPost recs w) := by
  obtain ⟨od, S, P, rv, vs, hx⟩ := h
  obtain ⟨AR, cR, hrv, hcR, hLs⟩ := (show OwnL w base rv recs from ⟨vs, hx.lst⟩).lists
  subst hrv
  have c19 := hx.c19
  have HX := Lib.hid hx
  have HS := Lib.hid hsz
  have HLS := Lib.hid hLs
  obtain ⟨n, hn'⟩ : ∃ n, n = recs.length := ⟨_, rfl⟩
  rw [← hn'] at c19
  have HN := Lib.hid hn'
  have hnI : (n : Int) ≤ 1000000 := by omega
  have hn0 : (0 : Int) ≤ (n : Int) := by omega
  have hmk := made_lists n (by omega)
  have HNN : Hid (n ≤ 1000000) := by show _ ≤ _; omega
  obtain ⟨NS, hNS⟩ : ∃ NS : Array Value, NS = (List.replicate n (Value.slice none 0 0)).toArray := ⟨_, rfl⟩
  rw [← hNS] at hmk
  have HNS := Lib.hid hNS
  obtain ⟨w1, hw1⟩ : ∃ w1, w.alloc (.cells NS 96) = w1 := ⟨_, rfl⟩
  have HB1 : Hid (Below w.heap.size w w1) := by show Below _ _ _; rw [← hw1]; exact (Below.refl _ _).alloc (Nat.le_refl _) _
  have d19 : ∀ o, (w.alloc o).cell? ⟨gl, 19, none⟩ = some (.slice AR n cR) := fun o => (World.cell?_alloc_lt w o ⟨gl, 19, none⟩ (hx.bnd gl hx.ogl).2).trans c19
  have HP1 : Hid (PartL w1 w.heap.size w.heap.size n recs []) := by
    show PartL _ _ _ _ _ _
    rw [← hw1]
    refine ⟨?_, Nat.le_refl _, fun i u hu => by simp at hu, fun i j u u' _ hu => by simp at hu⟩
    rw [hNS]
    exact heap_alloc_new w _
  have HW1 := Lib.hid hw1
  clear hx hsz hLs hn' hn hNS hw1 hcR
  go_enter Tryz.func78, Tryz.ntmps78
  go_wp2
  rw [HW1.out]
  clear c19 d19 hmk
  go_loopw [19] (fun i wr => ∃ k : Nat, k ≤ n ∧ i = .int .i64 (k : Int) ∧ Hid (Below w.heap.size w wr ∧ ∃ vs, vs.length = k ∧ PartL wr w.heap.size w.heap.size n recs vs)) (fun i _ => n - (intOf i).toNat)
  case atStart => exact ⟨0, Nat.zero_le _, rfl, HB1.out, [], rfl, HP1.out⟩
  case round =>
    obtain ⟨k, hk, rfl, hO⟩ := hrel
    by_cases hlt : k < n
    · have hlt' : (k : Int) < (n : Int) := by omega
      have hk0 : (0 : Int) ≤ (k : Int) := by omega
      obtain ⟨vs1, hvl, hP⟩ := hO.out.2
      obtain ⟨l, b, off, A', c', hl_, hA, hbb, hcell, hcc, hrd⟩ := HLS.out.at_b hO.out.1 k (by rw [← HN.out]; exact hlt)
      have HBB := Lib.hid hO.out.1
      have HL : Hid (recs[k]? = some l) := by show _ = _; rw [← hl_.out]; exact List.getElem?_eq_getElem _
      have HPP := Lib.hid hP
      have HVL := Lib.hid hvl
      have HRD := Lib.hid hrd
      have HLT := Lib.hid hlt
      have hcn : Hid (k < recs.length) := by show _ < _; rw [← HN.out]; exact hlt
      subst hA
      clear hO hvl hP hl_ hrd hlt hk hbb
      obtain ⟨vold, hvold⟩ : ∃ v, wr.cell? ⟨w.heap.size, k, none⟩ = some v := by
        have h_ := HPP.out.row
        have h2_ := HVL.out
        have h3_ := HLT.out
        exact ⟨_, by rw [cell_of_row wr w.heap.size k _ _ _ h_, List.getElem?_toArray, List.getElem?_eq_getElem (by simp; omega)]⟩
      have hfz := frozen_row HPP.out.row
      go_wp2_with (go_at_call 93; go_must (refine (Clone_any A' l.length c' l wr ((HRD.out.below HBB.out).more HBB.out.size) (by have h_ := HS.out l (List.mem_of_getElem? HL.out); omega)).mono ?_; rintro e w2 ⟨u, rfl, hu, hb2⟩; obtain ⟨Au, cu, rfl, _, _⟩ := own8_form hu; have HU := Lib.hid (And.intro hu hb2); have cc2 := (hb2.cell (p := ⟨w.heap.size, k, none⟩) (lt_of_heap HPP.out.row)).trans hvold; have hfz2 := frozen_row (heap_below HPP.out.row hb2); clear hu hb2 hvold hfz))
      go_roundw
      case rel =>
        refine ⟨k + 1, HLT.out, by go_num, ?_, vs1 ++ [.slice Au l.length cu], by rw [List.length_append, HVL.out]; rfl, ?_⟩
        · exact (HBB.out.trans (HU.out.2.mono HBB.out.size)).setCell (p := ⟨w.heap.size, k, none⟩) (Nat.le_refl _) _
        · have h_ := HPP.out.push (u := .slice Au l.length cu) (by rw [HVL.out]; exact HLT.out) (by rw [HVL.out]; exact hcn.out) HU.out.2 (by
            have e : recs[vs1.length]'(by rw [HVL.out]; exact hcn.out) = l := by
              have h2_ := HL.out
              rw [← HVL.out] at h2_
              rw [List.getElem?_eq_getElem (by rw [HVL.out]; exact hcn.out)] at h2_
              exact Option.some.inj h2_
            rw [e]
            exact HU.out.1)
          rw [HVL.out] at h_
          exact h_
      case measure => simp [intOf]; omega
    · have hk' : k = n := by omega
      have hd : decide (k < n) = false := by simp; omega
      obtain ⟨vs1, hvl, hP⟩ := hO.out.2
      have FIN : Hid (RecPost recs w (.returned (.slice (some ⟨w.heap.size, 0, none⟩) n n)) wr) := ⟨_, rfl, hP.all HN.out.symm (by rw [hvl, hk']) HNN.out, hO.out.1⟩
      clear hO hP hvl hk' hlt hk
      go_wp2
      go_ret
      exact FIN.out
end Go.Proofs.YtbcpmnnlhdgbhaaGreatDoor

namespace Go.Proofs.YtbcpmnnlhdgbhaaGreatDoor
open Go.RowKit
end Go.Proofs.YtbcpmnnlhdgbhaaGreatDoor

namespace Go.Proofs.YtbcpmnnlhdgbhaaGreatDoor
open Go.RowKit
theorem read_in {s : DS} {n : Int} (hn : 0 ≤ n ∧ n < (s.secs.length : Int)) (hd : s.down = false) : s.read n = (s.peek n.toNat, 0) := by
  unfold DS.read
  rw [if_pos hn, if_neg (by rw [hd]; simp)]
end Go.Proofs.YtbcpmnnlhdgbhaaGreatDoor
