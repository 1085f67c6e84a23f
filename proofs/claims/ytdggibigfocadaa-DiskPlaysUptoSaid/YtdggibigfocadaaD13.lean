/- The walk of Restart. No conditions. -/
import Derived.Test.YtdggibigfocadaaD12
import Derived.Test.YtdggibigfocadaaLFull0
import Derived.Laws.IdiomCopy
namespace Go.Proofs.Ytdggibigfocadaa
open Go.RowKit
variable {w w' w0 : World} {base g : Nat} {own : Nat → Prop} {s : DS} {S P : Value} {H : List (Nat × Obj)}
theorem wpList_copy_cells {P : Program} {ops : Array Oper} {rest : List Oper} {o : Oper} {a : Act} {Q : Exit → Act → World → Prop} (hgd : o.guard = none) (d s : Operand) (dT sT elem : TypeId)
    (ho : o.op = .call { callee := .builtin .copy, args := #[d, s], argTypes := #[dT, sT] }) (b o0 dLen dCap : Nat) (ad : Addr) (sLen sCap : Nat) (cs : List Value)
    (hd : a.eval d = .slice (some ⟨b, o0, none⟩) dLen dCap) (hs : a.eval s = .slice (some ad) sLen sCap)
    (hu : P.underlying dT = some (.slice elem)) (hz : (P.info? elem).map (·.size) = some 1) (hn : cs.length = Nat.min sLen dLen)
    (hsrc : ∀ j v, cs[j]? = some v → w.cell? (ad.add j) = some v) (hc : ∀ j, j < cs.length → (w.cell? ⟨b, o0 + j, none⟩).isSome = true) (hf : ∀ j, j < cs.length → w.frozen? ⟨b, o0 + j, none⟩ = false) (h1 : ∀ v ∈ cs, v.oneCell' = true)
    (h : wpList P ops Q rest (a.put o.dst (goInt cs.length)) (w.setCells b o0 cs)) : wpList P ops Q (o :: rest) a w :=
  wpList_plain hgd fun K hK => by
    have hr := run_copy_cells (P := P) w dT sT o.type elem b o0 dLen dCap ad sLen sCap cs hu hz hn hsrc hc hf h1
    unfold Oper.wp execOp
    simp only [ho, resolve, invoke, builtin, Sem.run_bind, Sem.run_pure, Result.andThen_ok, List.map_toArray, List.map_cons, List.map_nil, hd, hs, hr]
    exact hK _ _ h
theorem ne8 {c d : UInt8} {n : Int} (h : ¬ c = d) (hn : (d.toNat : Int) = n) : ((c.toNat : Int) == n) = false := by
  rw [← hn]
  have : c.toNat ≠ d.toNat := fun e => h (UInt8.toNat_inj.1 e)
  simp
  omega
theorem set_same {α : Type} {l : List α} {k : Nat} {d : α} (h : l[k]? = some d) : l.set k d = l := by
  apply List.ext_getElem?
  intro i
  by_cases hi : i = k
  · subst hi
    have hlt : i < l.length := by
      rcases Nat.lt_or_ge i l.length with h' | h'
      · exact h'
      · rw [List.getElem?_eq_none h'] at h; cases h
    rw [List.getElem?_set_self hlt, h]
  · rw [List.getElem?_set_ne (Ne.symm hi)]
/-- What is left of a sector whose waiting write d meets a crash with the choice c. -/
def crash1 (c : UInt8) (old d : List UInt8) : List UInt8 := if c = 1 then d else if c = 2 then d.take 32 ++ old.drop 32 else if c = 3 then old.take 32 ++ d.drop 32 else old
def crashAll (l : List (List UInt8)) (ps : List ((Nat × List UInt8) × UInt8)) : List (List UInt8) := ps.foldl (fun l x => l.set x.1.1 (crash1 x.2 (l.getD x.1.1 []) x.1.2)) l
def DS.restart (s : DS) (ch : List UInt8) : DS := { s with secs := crashAll s.secs (s.pend.zip ch), pend := [], lit := false, down := false }
def DS.crash (s : DS) (ch : List UInt8) (k : Nat) : DS := { s with secs := crashAll s.secs ((s.pend.zip ch).take k) }
theorem crash_succ {s : DS} {ch : List UInt8} {k : Nat} {p : Nat × List UInt8} {c : UInt8} (hp : s.pend[k]? = some p) (hc : ch[k]? = some c) :
    s.crash ch (k + 1) = { s.crash ch k with secs := (s.crash ch k).secs.set p.1 (crash1 c ((s.crash ch k).secs.getD p.1 []) p.2) } := by
  have hz : (s.pend.zip ch)[k]? = some (p, c) := by rw [List.getElem?_zip_eq_some]; exact ⟨hp, hc⟩
  have h1 : (s.pend.zip ch).take (k + 1) = (s.pend.zip ch).take k ++ [(p, c)] := by rw [List.take_add_one, hz]; rfl
  unfold DS.crash crashAll
  rw [h1, List.foldl_append]
  rfl
theorem crash_end (s : DS) (ch : List UInt8) (k : Nat) (hk : k = s.pend.length ∨ k = ch.length) : s.restart ch = { s.crash ch k with pend := [], lit := false, down := false } := by
  have h1 : (s.pend.zip ch).take k = s.pend.zip ch := List.take_of_length_le (by rw [List.length_zip]; rcases hk with rfl | rfl <;> omega)
  unfold DS.restart DS.crash
  rw [h1]
def RestPost (base g : Nat) (own : Nat → Prop) (s : DS) (w : World) (e : Ending) (w' : World) : Prop := e = .returned (.tuple #[]) ∧ After base g own s w w'
theorem After.alloc (h : After base g own s w w') (o : Obj) : After base g own s w (w'.alloc o) := by
  obtain ⟨own', S', P', hD, hT, hn⟩ := h
  exact ⟨own', S', P', hD.below ((Below.refl _ _).alloc (Nat.le_refl _) _), hT.trans (Turns.alloc _ _), hn⟩
theorem rest_end {wr : World} {ch : List UInt8} {k : Nat} (hk : k = s.pend.length ∨ k = ch.length) (hD : Dsk wr base own g (s.crash ch k) S P) (hT : Turns own w wr) :
    After base g own (s.restart ch) w (((wr.setCell ⟨g, 1, none⟩ (.slice none 0 0)).setCell ⟨g, 4, none⟩ (.bool false)).setCell ⟨g, 3, none⟩ (.bool false)) := by
  obtain ⟨h1, h2, h3⟩ := hD.repend (w5 := wr) (v := .slice none 0 0) (l := []) ⟨rfl, rfl, rfl, Nat.le_refl _, fun _ _ _ => rfl⟩ (World.ownsRow_nil _ _ _ 65) (.inl rfl) (fun p hp => by cases hp)
  have h4 := h1.put (i := 4) (v := .bool false) (s' := { s.crash ch k with pend := [], lit := false }) rfl rfl rfl
  have h5 := h4.1.put (i := 3) (v := .bool false) (s' := { s.crash ch k with pend := [], lit := false, down := false }) rfl rfl rfl
  have hT' : ∀ {a b : World}, Turns (fun k => own k ∨ (Value.slice none 0 0).ownBlock = some k) a b → Turns own a b := fun ht => ⟨ht.os, ht.tape, ht.output, ht.size, fun k hk hn => ht.block k hk (fun e => by
    rcases e with e | e
    · exact hn e
    · cases e)⟩
  refine ⟨_, S, .slice none 0 0, by rw [crash_end s ch k hk]; exact h5.1, hT.trans (h2.trans ((hT' h4.2).trans (hT' h5.2))), fun k hk => (h3 k hk).imp id fun hk => by have := hT.size; omega⟩
set_option maxRecDepth 100000 in
set_option maxHeartbeats 4000000 in
theorem Restart_any (h : Dsk w base own g s S P) {B : Nat} {A : Option Addr} {cc : Nat} {ch : List UInt8} (hch : Reads w B 1 A ch.length (bvs ch)) (hB : B ≤ base) :
    Calls Try.prog 15 #[.pointer (some ⟨g, 0, none⟩), .slice A ch.length cc] w (RestPost base g own (s.restart ch) w) := by
  have f1 := h.field (i := 1) rfl
  obtain ⟨AP, cP, rfl⟩ := h.formP
  have Hh := Lib.hid h
  obtain ⟨zp, hzp⟩ : ∃ zp : Array Value, zp = (Value.int .i64 0 :: bvs (List.replicate 64 0)).toArray := ⟨_, rfl⟩
  have hz56 : ∀ w, (zeroValue 56).run Try.prog w = .ok (.agg zp) w := fun w => by rw [hzp]; kernel_rfl
  have hzs : zp.size = 65 := by rw [hzp]; simp [bvs_length]
  have Hzs := Lib.hid hzs
  have Hch := Lib.hid hch
  clear hzp hzs hch
  go_enter Try.func15, Try.ntmps15
  go_wp2
  clear f1 h
  go_loopw [14] (fun i wr => ∃ k : Nat, k ≤ s.pend.length ∧ k ≤ ch.length ∧ i = .int .i64 k ∧ Hid (Dsk wr base own g (s.crash ch k) S (.slice AP s.pend.length cP)) ∧ Hid (Turns own w wr)) (fun i _ => s.pend.length - (intOf i).toNat)
  case atStart => exact ⟨0, Nat.zero_le _, Nat.zero_le _, rfl, Hh, Turns.refl _ _⟩
  case round =>
    obtain ⟨k, hk, hkc, rfl, hD, hT⟩ := hrel
    by_cases hlt : k < s.pend.length
    · have hlt' : (k : Int) < (s.pend.length : Int) := by omega
      have hk0 : (0 : Int) ≤ (k : Int) := by omega
      have hmx : (k : Int) + 1 ≤ 9223372036854775807 := by have := hD.out.pendMax; have e : (s.crash ch k).pend = s.pend := rfl; rw [e] at this; omega
      obtain ⟨p, hp⟩ : ∃ p, s.pend[k]? = some p := ⟨_, List.getElem?_eq_getElem hlt⟩
      obtain ⟨gP, c, hPe, hoP, hgP, hrP⟩ := hD.out.pendAt (k := k) (p := p) hp
      obtain ⟨rfl, rfl⟩ : AP = some ⟨gP, 0, none⟩ ∧ cP = c := by injection hPe; exact ⟨by assumption, by assumption⟩
      have hrP' := Lib.hid hrP
      obtain ⟨ps, hps⟩ : ∃ ps : Array Value, ps = (Value.int .i64 (p.1 : Int) :: bvs p.2).toArray := ⟨_, rfl⟩
      have Hps := Lib.hid hps
      have hpl : p.2.length = 64 := (hD.out.ok.pend p (List.mem_of_getElem? hp)).2
      have Hpl := Lib.hid hpl
      have hpsz : ps.size = 65 := by rw [hps, List.size_toArray, List.length_cons, bvs_length, hpl]
      have Hpsz := Lib.hid hpsz
      have Hmx := Lib.hid hmx
      clear hps hpl hpsz hPe hrP hmx
      by_cases hkl : k = ch.length
      · subst hkl
        have f1 := hD.out.field (i := 1) rfl
        have f3 := hD.out.field (i := 3) rfl
        have f4 := hD.out.field (i := 4) rfl
        have hfz := hD.out.unfrozen
        have hgl := hD.out.lt
        go_wp2_with (first
          | (refine wpList_load_mid rfl _ _ rfl gP (ch.length * 65) rfl (Value.int .i64 (p.1 : Int) :: bvs p.2) _ hrP'.out Try.underlying56 rfl (by rw [List.length_cons, bvs_length, Hpl.out]; kernel_rfl) ?_; rw [← Hps.out])
          | (refine wpList_store_mid rfl _ _ _ rfl wr.heap.size 0 ps rfl rfl (by rw [Hpsz.out]; exact there_new wr _ _ 65 (by rw [Hzs.out]; exact Nat.le_refl _)) (by rw [Hpsz.out]; kernel_rfl) (by rw [Hps.out]; exact all_oneCell_toArray (one_pend _ _)) ?_; rw [alloc_all _ zp ps (by rw [Hzs.out, Hpsz.out])]))
        first
          | go_end0
          | (refine bodyPost_ret (results_none rfl _ _ _) rfl ?_)
        exact ⟨rfl, After.alloc (rest_end (hk := .inr rfl) hD.out hT.out) _⟩
      · have hkl' : (k : Int) < (ch.length : Int) := by omega
        have hkn : ((k : Int) == (ch.length : Int)) = false := by simp; omega
        go_wp2_with (first
          | (refine wpList_load_mid rfl _ _ rfl gP (k * 65) rfl (Value.int .i64 (p.1 : Int) :: bvs p.2) _ hrP'.out Try.underlying56 rfl (by rw [List.length_cons, bvs_length, Hpl.out]; kernel_rfl) ?_; rw [← Hps.out])
          | (refine wpList_store_mid rfl _ _ _ rfl wr.heap.size 0 ps rfl rfl (by rw [Hpsz.out]; exact there_new wr _ _ 65 (by rw [Hzs.out]; exact Nat.le_refl _)) (by rw [Hpsz.out]; kernel_rfl) (by rw [Hps.out]; exact all_oneCell_toArray (one_pend _ _)) ?_; rw [alloc_all _ zp ps (by rw [Hzs.out, Hpsz.out])]))
        have hb1 : Below wr.heap.size wr (wr.alloc (.cells ps 56)) := (Below.refl _ _).alloc (Nat.le_refl _) _
        have hr1 : (wr.alloc (.cells ps 56)).rangeAt wr.heap.size 0 ps.toList := range_of (heap_alloc_new wr _)
        have hs1 : wr.heap.size < (wr.alloc (.cells ps 56)).heap.size := by simp
        generalize (wr.alloc (.cells ps 56)) = w1 at *
        have hD1 := hD.out.below hb1
        have hpk := (hD.out.ok.pend p (List.mem_of_getElem? hp)).1
        obtain ⟨d0, hd0⟩ : ∃ d0, (s.crash ch k).secs[p.1]? = some d0 := ⟨_, List.getElem?_eq_getElem hpk⟩
        obtain ⟨gS, cS, rfl, hoS, hgS, hrS, htS⟩ := hD1.secAt hd0
        have Hr1 := Lib.hid hr1
        have hpk' : (p.1 : Int) < ((s.crash ch k).secs.length : Int) := by omega
        have hp0 : (0 : Int) ≤ (p.1 : Int) := by omega
        clear hrS htS hr1
        refine AnyZ.start [] (by kernel_rfl) rfl ?_
        apply AnyZ.pure (i := 0) rfl (by kernel_rfl) rfl rfl
        · intro w' K hK
          go_wp2
          exact hK
        · rfl
        apply AnyZ.pure (i := 1) rfl (by kernel_rfl) rfl rfl
        · intro w' K hK
          go_wp2
          exact hK
        · rfl
        apply AnyZ.pure (i := 2) rfl (by kernel_rfl) rfl rfl
        · intro w' K hK
          go_wp2
          exact hK
        · rfl
        apply AnyZ.take (i := 3) rfl (by kernel_rfl) (by kernel_rfl) rfl
        · intro w' hC K hK
          have f0 := (hD1.below hC).field (i := 0) rfl
          go_wp2
          exact hK
        · rfl
        apply AnyZ.pure (i := 4) rfl (by kernel_rfl) rfl rfl
        · intro w' K hK
          go_wp2
          exact hK
        · rfl
        apply AnyZ.take (i := 5) rfl (by kernel_rfl) (by kernel_rfl) rfl
        · intro w' hC K hK
          have f0 : w'.cell? ⟨wr.heap.size, 0, none⟩ = some (.int .i64 p.1) := (hC.cell (p := ⟨wr.heap.size, 0, none⟩) hs1).trans (Hr1.out 0 _ (by rw [Hps.out]; rfl))
          go_wp2
          exact hK
        · rfl
        apply AnyZ.pure (i := 6) rfl (by kernel_rfl) rfl rfl
        · intro w' K hK
          go_wp2
          exact hK
        · rfl
        apply AnyZ.pure (i := 7) rfl (by kernel_rfl) rfl rfl
        · intro w' K hK
          go_wp2
          exact hK
        · rfl
        refine AnyZ.done (by kernel_rfl) (fun w2 hC2 => ?_)
        have hD2 := hD1.below hC2
        have hT2 : Turns own w w2 := hT.out.trans (Turns.of_below (hb1.trans (hC2.mono hb1.size)))
        have Hr2 : Hid (w2.rangeAt wr.heap.size 0 ps.toList) := fun j v hv => (hC2.cell (p := ⟨wr.heap.size, 0 + j, none⟩) hs1).trans (Hr1.out j v hv)
        have hch2 : Reads w2 B 1 A ch.length (bvs ch) := Hch.out.keep fun q hq => World.cell?_of_block (hT2.block q.block (by have := (Hh.out.bnd _ Hh.out.ownG); omega) (fun e => by have := (Hh.out.bnd _ e).1; omega))
        obtain ⟨b, off, u, rfl, hbB, hu, hcell⟩ := hch2.at_ (k := k) (by omega)
        obtain ⟨c, hc⟩ : ∃ c, ch[k]? = some c := ⟨_, List.getElem?_eq_getElem (by omega)⟩
        obtain rfl : u = bv c := by simp [bvs, hc] at hu; exact hu.symm
        have hcs := crash_succ hp hc
        have hgd : (s.crash ch k).secs.getD p.1 [] = d0 := by rw [List.getD_eq_getElem?_getD, hd0]; rfl
        rw [hgd] at hcs
        have Hcs := Lib.hid hcs
        clear hcs hgd hch2 hu
        unfold bv at hcell
        by_cases hc1 : c = 1
        · subst hc1
          rw [show ((UInt8.toNat 1 : Nat) : Int) = 1 from rfl] at hcell
          obtain ⟨ds, hds⟩ : ∃ ds : Array Value, ds = (bvs p.2).toArray := ⟨_, rfl⟩
          have Hds := Lib.hid hds
          have hdz : ds.size = 64 := by rw [hds, List.size_toArray, bvs_length, Hpl.out]
          have Hdz := Lib.hid hdz
          clear hds hdz
          have hmx := Hmx.out
          go_wp2_with (first
            | (refine wpList_load_mid rfl _ _ rfl wr.heap.size 1 rfl (bvs p.2) _ (fun j v hv => by have := Hr2.out (j + 1) v (by rw [Hps.out]; simpa using hv); rw [Nat.zero_add] at this; rw [Nat.add_comm]; exact this) Try.underlying28 rfl (by rw [bvs_length, Hpl.out]; kernel_rfl) ?_; rw [← Hds.out])
            | (refine wpList_store_mid rfl _ _ _ rfl gS (p.1 * 64) ds rfl rfl (by rw [Hdz.out]; exact hD2.secThere rfl hpk) (by rw [Hdz.out]; kernel_rfl) (by rw [Hds.out]; exact all_oneCell_toArray (bvs_one _)) ?_))
          have Hfin : Hid (Dsk (w2.setCells gS (p.1 * 64) ds.toList) base own g (s.crash ch (k + 1)) (.slice (some ⟨gS, 0, none⟩) (s.crash ch k).secs.length cS) (.slice (some ⟨gP, 0, none⟩) s.pend.length cP) ∧ Turns own w (w2.setCells gS (p.1 * 64) ds.toList)) := by
            rw [Hcs.out, Hds.out]
            obtain ⟨h1, h2⟩ := hD2.secSet (k := p.1) (d := p.2) rfl hpk Hpl.out
            exact ⟨h1, hT2.trans h2⟩
          go_roundw
          case rel => exact ⟨k + 1, hlt, by omega, by go_num, Hfin.out.1, Hfin.out.2⟩
          case measure => simp [intOf]; omega
        by_cases hc2 : c = 2
        · subst hc2
          rw [show ((UInt8.toNat 2 : Nat) : Int) = 2 from rfl] at hcell
          go_wp2
          refine AnyZ.start [5] (by kernel_rfl) rfl ?_
          apply AnyZ.pure (i := 0) rfl (by kernel_rfl) rfl rfl
          · intro w' K hK
            go_wp2
            exact hK
          · rfl
          apply AnyZ.pure (i := 1) rfl (by kernel_rfl) rfl rfl
          · intro w' K hK
            go_wp2
            exact hK
          · rfl
          apply AnyZ.pure (i := 2) rfl (by kernel_rfl) rfl rfl
          · intro w' K hK
            go_wp2
            exact hK
          · rfl
          apply AnyZ.pure (i := 3) rfl (by kernel_rfl) rfl rfl
          · intro w' K hK
            go_wp2
            exact hK
          · rfl
          apply AnyZ.pure (i := 4) rfl (by kernel_rfl) rfl rfl
          · intro w' K hK
            go_wp2
            exact hK
          · rfl
          apply AnyZ.soloW (i := 5) rfl (by kernel_rfl)
          intro w3 hC3
          have hD3 := hD2.below hC3
          have hth : w3.there gS (p.1 * 64) 64 := hD3.secThere rfl hpk
          have hle : (p.2.take 32).length = 32 := by simp [Hpl.out]
          have Hle := Lib.hid hle
          clear hle
          refine wpList_copy_cells rfl _ _ 35 35 5 rfl gS (p.1 * 64) _ _ ⟨wr.heap.size, 1, none⟩ _ _ (bvs (p.2.take 32)) rfl rfl Try.underlying35 (by kernel_rfl) (by rw [bvs_length, Hle.out]; rfl) ?_ ?_ ?_ (bvs_one _) ?_
          · intro j v hv
            rw [add_none]
            have hj : j < 32 := by
              rcases Nat.lt_or_ge j 32 with h' | h'
              · exact h'
              · rw [List.getElem?_eq_none (by rw [bvs_length, Hle.out]; exact h')] at hv; cases hv
            have h1 := Hr2.out (1 + j) v (by rw [Hps.out, show 1 + j = (0 + j) + 1 from by omega]; simp only [List.getElem?_cons_succ]; simpa [bvs, List.getElem?_take_of_lt hj] using hv)
            rw [Nat.zero_add] at h1
            exact (hC3.cell (p := ⟨wr.heap.size, 1 + j, none⟩) (Nat.lt_of_lt_of_le hs1 hC2.size)).trans h1
          · intro j hj
            rw [bvs_length, Hle.out] at hj
            have := (hth (0 + j) (by omega)).1
            rwa [← Nat.add_assoc] at this
          · intro j hj
            rw [bvs_length, Hle.out] at hj
            have := (hth (0 + j) (by omega)).2
            rwa [← Nat.add_assoc] at this
          refine ⟨rfl, ?_⟩
          apply AnyW.done (by kernel_rfl)
          have Hfin : Hid (Dsk (w3.setCells gS (p.1 * 64) (bvs (p.2.take 32))) base own g (s.crash ch (k + 1)) (.slice (some ⟨gS, 0, none⟩) (s.crash ch k).secs.length cS) (.slice (some ⟨gP, 0, none⟩) s.pend.length cP) ∧ Turns own w (w3.setCells gS (p.1 * 64) (bvs (p.2.take 32)))) := by
            rw [Hcs.out]
            obtain ⟨h1, h2⟩ := hD3.secPart (k := p.1) (o := 0) (old := d0) (e := p.2.take 32) rfl hd0 (by rw [Hle.out]; decide)
            refine ⟨?_, hT2.trans ((Turns.of_below hC3).trans h2)⟩
            rw [show crash1 2 d0 p.2 = d0.take 0 ++ (p.2.take 32 ++ d0.drop (0 + (p.2.take 32).length)) from by rw [Hle.out]; simp [crash1]; ]
            exact h1
          generalize (w3.setCells gS (p.1 * 64) (bvs (p.2.take 32))) = w4 at *
          have hmx := Hmx.out
          go_wp2
          go_roundw
          case rel => exact ⟨k + 1, hlt, by omega, by go_num, Hfin.out.1, Hfin.out.2⟩
          case measure => simp [intOf]; omega
        by_cases hc3 : c = 3
        · subst hc3
          rw [show ((UInt8.toNat 3 : Nat) : Int) = 3 from rfl] at hcell
          go_wp2
          refine AnyZ.start [5] (by kernel_rfl) rfl ?_
          apply AnyZ.pure (i := 0) rfl (by kernel_rfl) rfl rfl
          · intro w' K hK
            go_wp2
            exact hK
          · rfl
          apply AnyZ.pure (i := 1) rfl (by kernel_rfl) rfl rfl
          · intro w' K hK
            go_wp2
            exact hK
          · rfl
          apply AnyZ.pure (i := 2) rfl (by kernel_rfl) rfl rfl
          · intro w' K hK
            go_wp2
            exact hK
          · rfl
          apply AnyZ.pure (i := 3) rfl (by kernel_rfl) rfl rfl
          · intro w' K hK
            go_wp2
            exact hK
          · rfl
          apply AnyZ.pure (i := 4) rfl (by kernel_rfl) rfl rfl
          · intro w' K hK
            go_wp2
            exact hK
          · rfl
          apply AnyZ.soloW (i := 5) rfl (by kernel_rfl)
          intro w3 hC3
          have hD3 := hD2.below hC3
          have hth : w3.there gS (p.1 * 64) 64 := hD3.secThere rfl hpk
          have hle : (p.2.drop 32).length = 32 := by simp [Hpl.out]
          have Hle := Lib.hid hle
          clear hle
          refine wpList_copy_cells rfl _ _ 35 35 5 rfl gS (p.1 * 64 + 32) _ _ ⟨wr.heap.size, 33, none⟩ _ _ (bvs (p.2.drop 32)) rfl rfl Try.underlying35 (by kernel_rfl) (by rw [bvs_length, Hle.out]; rfl) ?_ ?_ ?_ (bvs_one _) ?_
          · intro j v hv
            rw [add_none]
            have hj : j < 32 := by
              rcases Nat.lt_or_ge j 32 with h' | h'
              · exact h'
              · rw [List.getElem?_eq_none (by rw [bvs_length, Hle.out]; exact h')] at hv; cases hv
            have h1 := Hr2.out (33 + j) v (by rw [Hps.out, show 33 + j = (32 + j) + 1 from by omega]; simp only [List.getElem?_cons_succ]; simpa [bvs, List.getElem?_drop] using hv)
            rw [Nat.zero_add] at h1
            exact (hC3.cell (p := ⟨wr.heap.size, 33 + j, none⟩) (Nat.lt_of_lt_of_le hs1 hC2.size)).trans h1
          · intro j hj
            rw [bvs_length, Hle.out] at hj
            have := (hth (32 + j) (by omega)).1
            rwa [← Nat.add_assoc] at this
          · intro j hj
            rw [bvs_length, Hle.out] at hj
            have := (hth (32 + j) (by omega)).2
            rwa [← Nat.add_assoc] at this
          refine ⟨rfl, ?_⟩
          apply AnyW.done (by kernel_rfl)
          have Hfin : Hid (Dsk (w3.setCells gS (p.1 * 64 + 32) (bvs (p.2.drop 32))) base own g (s.crash ch (k + 1)) (.slice (some ⟨gS, 0, none⟩) (s.crash ch k).secs.length cS) (.slice (some ⟨gP, 0, none⟩) s.pend.length cP) ∧ Turns own w (w3.setCells gS (p.1 * 64 + 32) (bvs (p.2.drop 32)))) := by
            rw [Hcs.out]
            obtain ⟨h1, h2⟩ := hD3.secPart (k := p.1) (o := 32) (old := d0) (e := p.2.drop 32) rfl hd0 (by rw [Hle.out]; decide)
            refine ⟨?_, hT2.trans ((Turns.of_below hC3).trans h2)⟩
            rw [show crash1 3 d0 p.2 = d0.take 32 ++ (p.2.drop 32 ++ d0.drop (32 + (p.2.drop 32).length)) from by rw [Hle.out]; simp [crash1]; exact Nat.le_of_eq (hD2.ok.secs d0 (List.mem_of_getElem? hd0))]
            exact h1
          generalize (w3.setCells gS (p.1 * 64 + 32) (bvs (p.2.drop 32))) = w4 at *
          have hmx := Hmx.out
          go_wp2
          go_roundw
          case rel => exact ⟨k + 1, hlt, by omega, by go_num, Hfin.out.1, Hfin.out.2⟩
          case measure => simp [intOf]; omega
        have hv1 : ((c.toNat : Int) == 1) = false := ne8 hc1 rfl
        have hv2 : ((c.toNat : Int) == 2) = false := ne8 hc2 rfl
        have hv3 : ((c.toNat : Int) == 3) = false := ne8 hc3 rfl
        have Hfin : Hid (Dsk w2 base own g (s.crash ch (k + 1)) (.slice (some ⟨gS, 0, none⟩) (s.crash ch k).secs.length cS) (.slice (some ⟨gP, 0, none⟩) s.pend.length cP) ∧ Turns own w w2) := by
          rw [Hcs.out, show crash1 c d0 p.2 = d0 from by unfold crash1; rw [if_neg hc1, if_neg hc2, if_neg hc3], set_same hd0]
          exact ⟨hD2, hT2⟩
        have hmx := Hmx.out
        go_wp2
        go_roundw
        case rel => exact ⟨k + 1, hlt, by omega, by go_num, Hfin.out.1, Hfin.out.2⟩
        case measure => simp [intOf]; omega
    · obtain rfl : k = s.pend.length := by omega
      have f1 := hD.out.field (i := 1) rfl
      have f3 := hD.out.field (i := 3) rfl
      have f4 := hD.out.field (i := 4) rfl
      have hfz := hD.out.unfrozen
      go_wp2
      first
        | go_end0
        | (refine bodyPost_ret (results_none rfl _ _ _) rfl ?_)
      exact ⟨rfl, rest_end (hk := .inl rfl) hD.out hT.out⟩
end Go.Proofs.Ytdggibigfocadaa
