/- Phase 2 of a region that draws its order: what is left, each operation by what holds of its value whatever the order. No conditions. -/
import Derived.Test.YtbpgbihcihnieaaReg
namespace Go.Proofs.Ytbpgbihcihnieaa
section
variable {P : Program} {ops : Array Oper} {md : Region.Mode} {C : World → Prop} {Q : Act → World → Prop}

def dstOf (ops : Array Oper) (i : Nat) : Option Tmp := (ops[i]?).bind (·.dst)
def getD' (a : Act) : Option Tmp → Value
  | some d => a.tmps.getD d undef
  | none => undef
def puts (ops : Array Oper) (vs : Nat → Value) : List Nat → Act → Act
  | [], a => a
  | i :: l, a => puts ops vs l (a.put (dstOf ops i) (vs i))
def looks (ops : Array Oper) (i : Nat) : List Tmp := match ops[i]? with | some o => o.looksAt ops | none => []

/-- What is known of operation i once it has come up: 'sp i' of its value and the world; or, of a quiet one, that it yields just that value. -/
def Kn (P : Program) (ops : Array Oper) (C : World → Prop) (sp : Nat → Option (Value → World → Prop)) (i : Nat) (a : Act) (w : World) : Prop :=
  match ops[i]? with
  | none => True
  | some o => match sp i with
    | some φ => φ (getD' a o.dst) w
    | none => o.dst.isSome = true → YieldsC P ops C o (getD' a o.dst) a
/-- What is asked of operation i. -/
def Ask (P : Program) (ops : Array Oper) (C : World → Prop) (S : World → World → Prop) (sp : Nat → Option (Value → World → Prop)) (i : Nat) (a : Act) (w : World) : Prop :=
  match ops[i]? with
  | none => False
  | some o => match sp i with
    | some φ => if Region.wanted o (yielded ops a.tmps) then okOp P o a w (fun v w' => C w' ∧ S w w' ∧ φ (if o.dst.isSome then v else undef) w') else φ undef w
    | none => ∃ v, YieldsC P ops C o v a

/-- The closed check: the places D i lead ahead of i; nothing looks at what may come later; each temporary is written once. -/
def sepB (md : Region.Mode) (ops : Array Oper) (size : Nat) (listed : Array Bool) (rem : List Nat) (D : Nat → List Nat) : Bool :=
  (List.range ops.size).all (fun i => listed.getD i false || rem.contains i) &&
  rem.all (fun i => decide (i < ops.size) && !listed.getD i true && (match dstOf ops i with | some d => decide (d < size) | none => true) &&
    (match ops[i]? with | some o => (match o.op with | .select .. => false | _ => true) && o.after.all (fun e => !Region.binds md e || decide (e.on < i)) | none => false) &&
    (D i).all (fun j => rem.contains j && (D j).all ((D i).contains ·) && (match ops[i]? with | some o => o.after.any (fun e => Region.binds md e && (e.on == j || (rem.contains e.on && (D e.on).contains j))) | none => false)) &&
    rem.all (fun j => (match dstOf ops j with | some d => !(looks ops i).contains d || (D i).contains j | none => true) && (i == j || match dstOf ops i with | some d => dstOf ops j != some d | none => true)))

def Agree (ops : Array Oper) (rem : List Nat) (a1 a : Act) : Prop :=
  a.defers = a1.defers ∧ a.tmps.size = a1.tmps.size ∧ ∀ t, (∀ i ∈ rem, dstOf ops i ≠ some t) → a.tmps[t]? = a1.tmps[t]?

theorem act_ext {a b : Act} (h1 : a.tmps = b.tmps) (h2 : a.defers = b.defers) : a = b := by
  cases a; cases b; simp only at h1 h2; subst h1; subst h2; rfl
theorem puts_size (vs : Nat → Value) : ∀ (l : List Nat) (a : Act), (puts ops vs l a).tmps.size = a.tmps.size
  | [], _ => rfl
  | i :: l, a => by
    rw [puts, puts_size vs l]
    cases dstOf ops i <;> simp [Act.put]
theorem puts_defers (vs : Nat → Value) : ∀ (l : List Nat) (a : Act), (puts ops vs l a).defers = a.defers
  | [], _ => rfl
  | i :: l, a => by
    rw [puts, puts_defers vs l]
    cases dstOf ops i <;> simp [Act.put]
theorem puts_other (vs : Nat → Value) (t : Nat) : ∀ (l : List Nat) (a : Act), (∀ i ∈ l, dstOf ops i ≠ some t) → (puts ops vs l a).tmps[t]? = a.tmps[t]?
  | [], _, _ => rfl
  | i :: l, a, h => by
    rw [puts, puts_other vs t l _ (fun j hj => h j (List.mem_cons_of_mem _ hj))]
    have h0 := h i List.mem_cons_self
    cases hd : dstOf ops i with
    | none => rfl
    | some d =>
      have hne : d ≠ t := fun e => h0 (by rw [hd, e])
      simp [Act.put, Array.getElem?_setIfInBounds_ne hne]
theorem puts_at (vs : Nat → Value) (t : Nat) : ∀ (l : List Nat) (a : Act) (i : Nat), i ∈ l → dstOf ops i = some t → t < a.tmps.size →
    (∀ j ∈ l, dstOf ops j = some t → j = i) → (puts ops vs l a).tmps[t]? = some (vs i)
  | k :: l, a, i, hi, hd, ht, hu => by
    rw [puts]
    have hsz : (a.put (dstOf ops k) (vs k)).tmps.size = a.tmps.size := by cases dstOf ops k <;> simp [Act.put]
    by_cases hil : i ∈ l
    · exact puts_at vs t l _ i hil hd (by rw [hsz]; exact ht) (fun j hj hdj => hu j (List.mem_cons_of_mem _ hj) hdj)
    · have hik : i = k := by
        rcases List.mem_cons.1 hi with h | h
        · exact h
        · exact absurd h hil
      subst hik
      rw [puts_other vs t l _ (fun j hj hdj => hil (by rw [← hu j (List.mem_cons_of_mem _ hj) hdj]; exact hj))]
      rw [hd]
      simp [Act.put, ht]

theorem wanted_congr {a b : Act} {o : Oper} (h : ∀ t ∈ o.looksAt ops, a.tmps[t]? = b.tmps[t]?) : Region.wanted o (yielded ops a.tmps) = Region.wanted o (yielded ops b.tmps) := by
  unfold Region.wanted
  cases hg : o.guard with
  | none => rfl
  | some gw =>
    obtain ⟨g, want⟩ := gw
    have : yielded ops a.tmps g = yielded ops b.tmps g := by
      unfold yielded
      cases ht : (ops[g]?).bind (·.dst) with
      | none => rfl
      | some t =>
        have := h t (by simp [Oper.looksAt, hg, ht])
        simp [this]
    simp only [this]
theorem exec_congr {a b : Act} {o : Oper} (hs : ∀ cs x, o.op ≠ .select cs x) (h : ∀ t ∈ o.looksAt ops, a.tmps[t]? = b.tmps[t]?) : execOp a.eval o = execOp b.eval o :=
  execOp_congr o hs fun x hx => by
    cases x with
    | tmp t =>
      have := h t (by
        unfold Oper.looksAt
        exact List.mem_append_left _ (List.mem_filterMap.2 ⟨.tmp t, by simpa using hx, rfl⟩))
      simp [Act.eval, this]
    | _ => rfl

section
variable {S : World → World → Prop} {sp : Nat → Option (Value → World → Prop)} {listed0 : Array Bool} {rem : List Nat} {D : Nat → List Nat} {a1 : Act}

structure Sep (md : Region.Mode) (ops : Array Oper) (size : Nat) (listed : Array Bool) (rem : List Nat) (D : Nat → List Nat) : Prop where
  all : ∀ i, i < ops.size → listed.getD i false = true ∨ i ∈ rem
  lt : ∀ i ∈ rem, i < ops.size
  un : ∀ i ∈ rem, listed.getD i true = false
  fit : ∀ i ∈ rem, ∀ d, dstOf ops i = some d → d < size
  sel : ∀ i ∈ rem, ∃ o, ops[i]? = some o ∧ ∀ cs x, o.op ≠ .select cs x
  low : ∀ i ∈ rem, ∀ o, ops[i]? = some o → ∀ e ∈ o.after, Region.binds md e = true → e.on < i
  sub : ∀ i ∈ rem, ∀ j ∈ D i, j ∈ rem
  trans : ∀ i ∈ rem, ∀ j ∈ D i, ∀ k ∈ D j, k ∈ D i
  lead : ∀ i ∈ rem, ∀ j ∈ D i, ∃ o, ops[i]? = some o ∧ ∃ e ∈ o.after, Region.binds md e = true ∧ (e.on = j ∨ (e.on ∈ rem ∧ j ∈ D e.on))
  look : ∀ i ∈ rem, ∀ j ∈ rem, ∀ d, dstOf ops j = some d → d ∈ looks ops i → j ∈ D i
  once : ∀ i ∈ rem, ∀ j ∈ rem, ∀ d, dstOf ops i = some d → dstOf ops j = some d → i = j

theorem sep_of {size : Nat} (h : sepB md ops size listed0 rem D = true) : Sep md ops size listed0 rem D := by
  simp only [sepB, Bool.and_eq_true, List.all_eq_true] at h
  obtain ⟨hall, h⟩ := h
  refine ⟨?_, ?_, ?_, ?_, ?_, ?_, ?_, ?_, ?_, ?_, ?_⟩
  · intro i hi
    have := hall i (List.mem_range.2 hi)
    simpa using this
  · intro i hi; simpa using (h i hi).1.1.1.1.1
  · intro i hi; simpa using (h i hi).1.1.1.1.2
  · intro i hi d hd
    have := (h i hi).1.1.1.2
    rw [hd] at this; simpa using this
  · intro i hi
    have := (h i hi).1.1.2
    cases ho : ops[i]? with
    | none => rw [ho] at this; cases this
    | some o =>
      rw [ho] at this
      obtain ⟨dst, op, ty, pos, aft, gd⟩ := o
      refine ⟨_, rfl, fun cs x he => ?_⟩
      simp only at he
      subst he
      simp at this
  · intro i hi o ho e he hb
    have := (h i hi).1.1.2
    rw [ho] at this
    simp only [Bool.and_eq_true] at this
    have := Array.all_eq_true_iff_forall_mem.1 this.2 e he
    simpa [hb] using this
  · intro i hi j hj; simpa using ((h i hi).1.2 j hj).1.1
  · intro i hi j hj k hk; simpa using ((h i hi).1.2 j hj).1.2 k hk
  · intro i hi j hj
    have := ((h i hi).1.2 j hj).2
    cases ho : ops[i]? with
    | none => rw [ho] at this; cases this
    | some o =>
      rw [ho] at this
      obtain ⟨e, he, hb⟩ := Array.any_eq_true'.1 this
      simp only [Bool.and_eq_true, Bool.or_eq_true, beq_iff_eq, List.contains_iff_mem] at hb
      exact ⟨o, rfl, e, he, hb.1, hb.2⟩
  · intro i hi j hj d hd hl
    have := ((h i hi).2 j hj).1
    rw [hd] at this
    simpa [hl] using this
  · intro i hi j hj d hd hd'
    have := ((h i hi).2 j hj).2
    rw [hd] at this
    simp only [hd', Bool.or_eq_true, beq_iff_eq, bne_iff_ne, ne_eq, not_true_eq_false, or_false] at this
    exact this

/-- Operation i (and what is known of it) sees no more of a frame than what comes ahead of it. -/
theorem same_looks {size : Nat} (hs : Sep md ops size listed0 rem D) (hsz : a1.tmps.size = size) {a : Act} (hag : Agree ops rem a1 a) {l : List Nat} (hl : ∀ j ∈ l, j ∈ rem) {i : Nat} (hi : i ∈ rem) (hD : ∀ j ∈ D i, j ∈ l)
    {o : Oper} (ho : ops[i]? = some o) : ∀ t ∈ o.looksAt ops, a.tmps[t]? = (puts ops (fun j => getD' a (dstOf ops j)) l a1).tmps[t]? := by
  intro t ht
  by_cases hex : ∃ j ∈ rem, dstOf ops j = some t
  · obtain ⟨j, hj, hd⟩ := hex
    have hjD : j ∈ D i := hs.look i hi j hj t hd (by simp [looks, ho, ht])
    have htl : t < a1.tmps.size := by rw [hsz]; exact hs.fit j hj t hd
    rw [puts_at _ t l a1 j (hD j hjD) hd htl (fun k hk hdk => hs.once k (hl k hk) j hj t hdk hd)]
    have hta : t < a.tmps.size := by rw [hag.2.1]; exact htl
    simp only [getD', hd]
    rw [Array.getD_eq_getD_getElem?, Array.getElem?_eq_getElem hta]
    rfl
  · have hno : ∀ j ∈ rem, dstOf ops j ≠ some t := fun j hj h => hex ⟨j, hj, h⟩
    rw [hag.2.2 t hno, puts_other _ t l a1 (fun j hj => hno j (hl j hj))]
theorem get_puts {size : Nat} (hs : Sep md ops size listed0 rem D) (hsz : a1.tmps.size = size) {a : Act} {l : List Nat} (hl : ∀ j ∈ l, j ∈ rem) {j : Nat} (hj : j ∈ l) :
    getD' (puts ops (fun j => getD' a (dstOf ops j)) l a1) (dstOf ops j) = getD' a (dstOf ops j) := by
  cases hd : dstOf ops j with
  | none => rfl
  | some d =>
    have hdl : d < a1.tmps.size := by rw [hsz]; exact hs.fit j (hl j hj) d hd
    have := puts_at (ops := ops) (fun j => getD' a (dstOf ops j)) d l a1 j hj hd hdl (fun k hk hdk => hs.once k (hl k hk) j (hl j hj) d hdk hd)
    simp only [getD'] at this ⊢
    rw [Array.getD_eq_getD_getElem?, this, hd]
    rfl
theorem kn_puts {size : Nat} (hs : Sep md ops size listed0 rem D) (hsz : a1.tmps.size = size) {a : Act} {w : World} (hag : Agree ops rem a1 a) {l : List Nat} (hl : ∀ j ∈ l, j ∈ rem) {j : Nat} (hj : j ∈ l) (hDl : ∀ k ∈ D j, k ∈ l)
    (h : Kn P ops C sp j a w) : Kn P ops C sp j (puts ops (fun j => getD' a (dstOf ops j)) l a1) w := by
  unfold Kn at *
  cases ho : ops[j]? with
  | none => trivial
  | some o =>
    have hdo : dstOf ops j = o.dst := by simp [dstOf, ho]
    have hg := get_puts hs hsz (a := a) hl hj
    rw [hdo] at hg
    simp only [ho] at h ⊢
    cases hsp : sp j with
    | some φ => simp only [hsp] at h ⊢; rw [hg]; exact h
    | none =>
      simp only [hsp] at h ⊢
      rw [hg]
      intro hd
      have hsame := same_looks hs hsz hag hl (hl j hj) hDl ho
      obtain ⟨o', ho', hsel⟩ := hs.sel j (hl j hj)
      rw [ho] at ho'; cases ho'
      exact (h hd).of_same (exec_congr hsel fun t ht => (hsame t ht).symm) (wanted_congr fun t ht => (hsame t ht).symm)

/-- PHASE 2. -/
theorem anyC_rest {size : Nat} (sp : Nat → Option (Value → World → Prop)) (S : World → World → Prop) (rem : List Nat) (D : Nat → List Nat) (hsz : a1.tmps.size = size) (hB : sepB md ops size listed0 rem D = true) (hls : listed0.size = ops.size)
    (hmono : ∀ i φ, sp i = some φ → ∀ v w w', φ v w → S w w' → φ v w')
    (hquiet : ∀ w, S w w)
    (hask : ∀ i ∈ rem, ∀ (vs : Nat → Value) (w : World), C w → (∀ j ∈ D i, Kn P ops C sp j (puts ops vs (D i) a1) w) → Ask P ops C S sp i (puts ops vs (D i) a1) w)
    (hend : ∀ (vs : Nat → Value) (w : World), C w → (∀ j ∈ rem, Kn P ops C sp j (puts ops vs rem a1) w) → Q (puts ops vs rem a1) w)
    {fuel : Nat} (hfuel : rem.length ≤ fuel) : ∀ w, C w → anyC P md ops C Q fuel listed0 a1 w := by
  have hs := sep_of hB
  -- the invariant
  have key : ∀ (fuel : Nat) (listed : Array Bool) (a : Act) (w : World), C w → listed.size = ops.size → Agree ops rem a1 a → (∀ i, i ∉ rem → listed.getD i false = listed0.getD i false) →
      (∀ i ∈ rem, listed.getD i false = true → (∀ j ∈ D i, listed.getD j false = true) ∧ Kn P ops C sp i a w) →
      (rem.filter fun i => !listed.getD i false).length ≤ fuel → anyC P md ops C Q fuel listed a w := by
    intro fuel
    have hdone : ∀ (listed : Array Bool) (a : Act) (w : World), C w → Agree ops rem a1 a →
        (∀ i ∈ rem, listed.getD i false = true → (∀ j ∈ D i, listed.getD j false = true) ∧ Kn P ops C sp i a w) → (∀ i ∈ rem, listed.getD i false = true) → Q a w := by
      intro listed a w hC hag hkn hfull
      have hext : a = puts ops (fun j => getD' a (dstOf ops j)) rem a1 := by
        have h1 : a.tmps = (puts ops (fun j => getD' a (dstOf ops j)) rem a1).tmps := by
          apply Array.ext_getElem?
          intro t
          by_cases hex : ∃ j ∈ rem, dstOf ops j = some t
          · obtain ⟨j, hj, hd⟩ := hex
            have htl : t < a1.tmps.size := by rw [hsz]; exact hs.fit j hj t hd
            rw [puts_at _ t rem a1 j hj hd htl (fun k hk hdk => hs.once k hk j hj t hdk hd)]
            have hta : t < a.tmps.size := by rw [hag.2.1]; exact htl
            simp only [getD', hd]
            rw [Array.getD_eq_getD_getElem?, Array.getElem?_eq_getElem hta]
            rfl
          · have hno : ∀ j ∈ rem, dstOf ops j ≠ some t := fun j hj h => hex ⟨j, hj, h⟩
            rw [hag.2.2 t hno, puts_other _ t rem a1 hno]
        have h2 : a.defers = (puts ops (fun j => getD' a (dstOf ops j)) rem a1).defers := by rw [puts_defers]; exact hag.1
        exact act_ext h1 h2
      rw [hext]
      exact hend _ w hC fun j hj => kn_puts hs hsz hag (fun _ h => h) hj (fun k hk => hs.sub j hj k hk) (hkn j hj (hfull j hj)).2
    have hstep : ∀ (listed : Array Bool) (a : Act) (w : World) (i : Nat), C w → listed.size = ops.size → Agree ops rem a1 a → (∀ i, i ∉ rem → listed.getD i false = listed0.getD i false) →
        (∀ i ∈ rem, listed.getD i false = true → (∀ j ∈ D i, listed.getD j false = true) ∧ Kn P ops C sp i a w) → i ∈ Region.ready md ops listed → i ∈ rem ∧
        okStep P ops i (fun a' w' => C w' ∧ Agree ops rem a1 a' ∧ ∀ k ∈ rem, (listed.setIfInBounds i true).getD k false = true → (∀ j ∈ D k, (listed.setIfInBounds i true).getD j false = true) ∧ Kn P ops C sp k a' w') a w := by
      intro listed a w i hC hlsz hag hout hkn hr
      obtain ⟨hun, o, ho, hedge⟩ := mem_ready.1 hr
      have hlt : i < ops.size := (Array.getElem?_eq_some_iff.1 ho).1
      have hir : i ∈ rem := by
        rcases hs.all i hlt with h | h
        · by_cases hin : i ∈ rem
          · exact hin
          · have h1 := hout i hin
            rw [h] at h1
            have h2 : listed.getD i true = true := by
              rw [Array.getD_eq_getD_getElem?] at h1 ⊢
              rw [Array.getElem?_eq_getElem (by omega)] at h1 ⊢
              exact h1
            rw [h2] at hun; cases hun
        · exact h
      refine ⟨hir, ?_⟩
      have hDl : ∀ j ∈ D i, listed.getD j false = true := by
        intro j hj
        obtain ⟨o', ho', e, he, hb, hcase⟩ := hs.lead i hir j hj
        rw [ho] at ho'; cases ho'
        have hl := hedge e he hb
        rcases hcase with h | ⟨h1, h2⟩
        · rw [← h]; exact hl
        · exact (hkn e.on h1 hl).1 j h2
      have hself : i ∉ D i := fun h => by
        have := hDl i h
        rw [Array.getD_eq_getD_getElem?] at this hun
        rw [Array.getElem?_eq_getElem (by omega)] at this hun
        simp at this hun
        rw [this] at hun; cases hun
      have hb := hask i hir (fun j => getD' a (dstOf ops j)) w hC fun j hj => kn_puts hs hsz hag (fun k hk => hs.sub i hir k hk) hj (fun k hk => hs.trans i hir j hj k hk) (hkn j (hs.sub i hir j hj) (hDl j hj)).2
      have hsame := same_looks hs hsz hag (fun k hk => hs.sub i hir k hk) hir (fun j hj => hj) ho
      obtain ⟨o', ho', hsel⟩ := hs.sel i hir
      rw [ho] at ho'; cases ho'
      have hexec := exec_congr hsel hsame
      have hwant := wanted_congr hsame
      -- what is known stays known when i is written
      have keep : ∀ (v : Value) (w' : World), S w w' → ∀ k ∈ rem, k ≠ i → listed.getD k false = true → Kn P ops C sp k (a.put o.dst v) w' := by
        intro v w' hS k hk hki hkl
        have h0 := (hkn k hk hkl).2
        have hDk := (hkn k hk hkl).1
        unfold Kn at h0 ⊢
        cases hok : ops[k]? with
        | none => trivial
        | some ok =>
          simp only [hok] at h0 ⊢
          have hdk : dstOf ops k = ok.dst := by simp [dstOf, hok]
          have hdi : dstOf ops i = o.dst := by simp [dstOf, ho]
          have hget : getD' (a.put o.dst v) ok.dst = getD' a ok.dst := by
            cases hd : ok.dst with
            | none => rfl
            | some d =>
              cases hd2 : o.dst with
              | none => rfl
              | some d2 =>
                have hne : d2 ≠ d := fun e => hki (hs.once k hk i hir d (by rw [hdk, hd]) (by rw [hdi, hd2, e]))
                simp [getD', Act.put, Array.getElem?_setIfInBounds_ne hne]
          have hlook : ∀ t ∈ ok.looksAt ops, (a.put o.dst v).tmps[t]? = a.tmps[t]? := by
            intro t ht
            cases hd2 : o.dst with
            | none => rfl
            | some d2 =>
              have hne : d2 ≠ t := fun e => by
                have := hs.look k hk i hir t (by rw [hdi, hd2, e]) (by simp [looks, hok, ht])
                have := hDk i this
                rw [Array.getD_eq_getD_getElem?] at this hun
                rw [Array.getElem?_eq_getElem (by omega)] at this hun
                simp at this hun
                rw [this] at hun; cases hun
              simp [Act.put, Array.getElem?_setIfInBounds_ne hne]
          cases hsp : sp k with
          | some φ => simp only [hsp] at h0 ⊢; rw [hget]; exact hmono k φ hsp _ _ _ h0 hS
          | none =>
            simp only [hsp] at h0 ⊢
            rw [hget]
            intro hd
            obtain ⟨o'', ho'', hsel'⟩ := hs.sel k hk
            rw [hok] at ho''; cases ho''
            exact (h0 hd).of_same (exec_congr hsel' hlook) (wanted_congr hlook)
      have hagree : ∀ v, Agree ops rem a1 (a.put o.dst v) := by
        intro v
        have hdi : dstOf ops i = o.dst := by simp [dstOf, ho]
        refine ⟨?_, ?_, ?_⟩
        · cases hd : o.dst <;> simpa [Act.put] using hag.1
        · cases hd : o.dst <;> simpa [Act.put] using hag.2.1
        · intro t ht
          rw [← hag.2.2 t ht]
          cases hd : o.dst with
          | none => rfl
          | some d =>
            have hne : d ≠ t := fun e => ht i hir (by rw [hdi, hd, e])
            simp [Act.put, Array.getElem?_setIfInBounds_ne hne]
      have hgeti : ∀ v, o.dst ≠ none → getD' (a.put o.dst v) o.dst = v := by
        intro v hnn
        cases hd : o.dst with
        | none => exact absurd hd hnn
        | some d =>
          have hdl : d < a.tmps.size := by rw [hag.2.1, hsz]; exact hs.fit i hir d (by simp [dstOf, ho, hd])
          simp [getD', Act.put, hdl]
      have hlist : ∀ k, (listed.setIfInBounds i true).getD k false = true → k = i ∨ listed.getD k false = true := by
        intro k hk
        by_cases hki : k = i
        · exact .inl hki
        · rw [getD_set_ne false (Ne.symm hki)] at hk; exact .inr hk
      -- the two ways
      have fresh : listed.getD i false = false := by
        rw [Array.getD_eq_getD_getElem?] at hun ⊢
        rw [Array.getElem?_eq_getElem (by omega)] at hun ⊢
        exact hun
      have fin : ∀ v w', C w' → S w w' → Kn P ops C sp i (a.put o.dst v) w' → C w' ∧ Agree ops rem a1 (a.put o.dst v) ∧ ∀ k ∈ rem, (listed.setIfInBounds i true).getD k false = true → (∀ j ∈ D k, (listed.setIfInBounds i true).getD j false = true) ∧ Kn P ops C sp k (a.put o.dst v) w' := by
        intro v w' hC' hS hki
        refine ⟨hC', hagree v, fun k hk hkl => ?_⟩
        by_cases hke : k = i
        · subst hke
          exact ⟨fun j hj => getD_set_true (hDl j hj), hki⟩
        · rcases hlist k hkl with h | h
          · exact absurd h hke
          · exact ⟨fun j hj => getD_set_true ((hkn k hk h).1 j hj), keep v w' hS k hk hke h⟩
      have hself' : ∀ v, ∀ t ∈ o.looksAt ops, (a.put o.dst v).tmps[t]? = a.tmps[t]? := by
        intro v t ht
        cases hd2 : o.dst with
        | none => rfl
        | some d2 =>
          have hne : d2 ≠ t := fun e => hself (hs.look i hir i hir t (by simp [dstOf, ho, hd2, e]) (by simp [looks, ho, ht]))
          simp [Act.put, Array.getElem?_setIfInBounds_ne hne]
      unfold Ask at hb
      unfold okStep
      simp only [ho] at hb ⊢
      cases hsp : sp i with
      | some φ =>
        simp only [hsp] at hb
        rw [hwant]
        have mk : ∀ v w', φ (if o.dst.isSome then v else undef) w' → Kn P ops C sp i (a.put o.dst v) w' := by
          intro v w' hφ
          unfold Kn
          simp only [ho, hsp]
          cases hd : o.dst with
          | none => rw [hd] at hφ; simpa [getD'] using hφ
          | some d =>
            have := hgeti v (by simp [hd])
            rw [hd] at this hφ
            rw [this]; simpa using hφ
        split
        · rename_i hw
          rw [if_pos hw] at hb
          unfold okOp at hb ⊢
          rw [hexec]
          exact okOp_mono (o := o) (a := puts ops (fun j => getD' a (dstOf ops j)) (D i) a1) (fun v w' ⟨h1, h2, h3⟩ => fin v w' h1 h2 (mk v w' h3)) hb
        · rename_i hw
          rw [if_neg hw] at hb
          exact fin undef w hC (hquiet w) (mk undef w (by simpa using hb))
      | none =>
        simp only [hsp] at hb
        obtain ⟨v, hy⟩ := hb
        have hy' : YieldsC P ops C o v a := hy.of_same hexec hwant
        have hyp : YieldsC P ops C o v (a.put o.dst v) := hy'.of_same (exec_congr hsel (hself' v)) (wanted_congr (hself' v))
        have hv : o.dst = none ∨ o.dst ≠ none := by cases o.dst <;> simp
        rcases hy' with ⟨hw, hall⟩ | ⟨hw, rfl⟩
        · rw [if_pos hw]
          refine okOp_mono (fun u w' ⟨h1, h2⟩ => ?_) (hall w hC)
          subst h1; subst h2
          refine fin u w' hC (hquiet w') ?_
          unfold Kn
          simp only [ho, hsp]
          intro hd
          rcases hv with hv | hv
          · rw [hv] at hd; cases hd
          · rw [hgeti u hv]; exact hyp
        · rw [if_neg (by rw [hw]; simp)]
          refine fin undef w hC (hquiet w) ?_
          unfold Kn
          simp only [ho, hsp]
          intro hd
          rcases hv with hv | hv
          · rw [hv] at hd; cases hd
          · rw [hgeti undef hv]; exact hyp
    induction fuel with
    | zero =>
      intro listed a w hC hlsz hag hout hkn hf
      have hfull : ∀ i ∈ rem, listed.getD i false = true := by
        intro i hi
        have : (rem.filter fun i => !listed.getD i false) = [] := List.eq_nil_of_length_eq_zero (Nat.le_zero.1 hf)
        have := List.filter_eq_nil_iff.1 this i hi
        simpa using this
      refine ⟨?_, hdone listed a w hC hag hkn hfull⟩
      apply List.eq_nil_iff_forall_not_mem.2
      intro i hi
      have hir := (hstep listed a w i hC hlsz hag hout hkn hi).1
      have h1 := hfull i hir
      have h2 := (mem_ready.1 hi).1
      have hlt := hs.lt i hir
      rw [Array.getD_eq_getD_getElem?] at h1 h2
      rw [Array.getElem?_eq_getElem (by omega)] at h1 h2
      simp at h1 h2
      rw [h1] at h2; cases h2
    | succ fuel ih =>
      intro listed a w hC hlsz hag hout hkn hf
      refine ⟨fun h0 => ?_, fun i hi => ?_⟩
      · refine hdone listed a w hC hag hkn ?_
        have hmin : ∀ n i, i ≤ n → i ∈ rem → listed.getD i false = true := by
          intro n
          induction n with
          | zero =>
            intro i hin hir
            cases hl : listed.getD i false with
            | true => rfl
            | false =>
              exfalso
              obtain ⟨o, ho, _⟩ := hs.sel i hir
              have : i ∈ Region.ready md ops listed := mem_ready.2 ⟨by
                have hlt := hs.lt i hir
                rw [Array.getD_eq_getD_getElem?] at hl ⊢
                rw [Array.getElem?_eq_getElem (by omega)] at hl ⊢
                exact hl, o, ho, fun e he hb => by have := hs.low i hir o ho e he hb; omega⟩
              rw [h0] at this; cases this
          | succ n ihn =>
            intro i hin hir
            cases hl : listed.getD i false with
            | true => rfl
            | false =>
              exfalso
              obtain ⟨o, ho, _⟩ := hs.sel i hir
              have : i ∈ Region.ready md ops listed := mem_ready.2 ⟨by
                have hlt := hs.lt i hir
                rw [Array.getD_eq_getD_getElem?] at hl ⊢
                rw [Array.getElem?_eq_getElem (by omega)] at hl ⊢
                exact hl, o, ho, fun e he hb => by
                  have hlow := hs.low i hir o ho e he hb
                  by_cases her : e.on ∈ rem
                  · exact ihn e.on (by omega) her
                  · rw [hout e.on her]
                    rcases hs.all e.on (by have := hs.lt i hir; omega) with h | h
                    · exact h
                    · exact absurd h her⟩
              rw [h0] at this; cases this
        exact fun i hi => hmin i i (Nat.le_refl _) hi
      · obtain ⟨hir, hst⟩ := hstep listed a w i hC hlsz hag hout hkn hi
        refine okStep_mono (fun a' w' ⟨h1, h2, h3⟩ => ⟨h1, ih (listed.setIfInBounds i true) a' w' h1 (by simpa using hlsz) h2 (fun k hk => ?_) h3 ?_⟩) hst
        · rw [getD_set_ne false (fun e => hk (by rw [← e]; exact hir))]; exact hout k hk
        · have hun := (mem_ready.1 hi).1
          have hfr : listed.getD i false = false := by
            have hlt := hs.lt i hir
            rw [Array.getD_eq_getD_getElem?] at hun ⊢
            rw [Array.getElem?_eq_getElem (by omega)] at hun ⊢
            exact hun
          have hsub : (rem.filter fun k => !(listed.setIfInBounds i true).getD k false) = ((rem.filter fun k => !listed.getD k false).filter fun k => k != i) := by
            rw [List.filter_filter]
            apply List.filter_congr
            intro k _
            by_cases hki : k = i
            · subst hki
              have hlt := hs.lt k hir
              have : (listed.setIfInBounds k true).getD k false = true := by simp [show k < listed.size by omega]
              rw [this]; simp
            · rw [getD_set_ne false (Ne.symm hki)]; simp [hki]
          rw [hsub]
          have : ((rem.filter fun k => !listed.getD k false).filter fun k => k != i).length < (rem.filter fun k => !listed.getD k false).length := by
            rw [List.length_filter_lt_length_iff_exists]
            exact ⟨i, List.mem_filter.2 ⟨hir, by simp [hfr]⟩, by simp⟩
          omega
  intro w hC
  refine key fuel listed0 a1 w hC hls ⟨rfl, rfl, fun _ _ => rfl⟩ (fun _ _ => rfl) (fun i hi h => ?_) ?_
  · have h2 := hs.un i hi
    have hlt := hs.lt i hi
    rw [Array.getD_eq_getD_getElem?] at h h2
    rw [Array.getElem?_eq_getElem (by omega)] at h h2
    simp at h h2
    rw [h] at h2; cases h2
  · exact Nat.le_trans (List.length_filter_le _ _) hfuel
end
end
end Go.Proofs.Ytbpgbihcihnieaa
