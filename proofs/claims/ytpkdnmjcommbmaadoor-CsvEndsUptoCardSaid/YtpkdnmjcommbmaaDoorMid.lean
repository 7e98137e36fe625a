/- A region that draws its order, one of whose operations acts on the world: every other operation stands surely ahead of it or surely behind it. One walk in the order of the text serves every order. No program is named. -/
import Derived.Sort.QuietThIn
namespace Go.Mid
open Go

section
variable {F : Fence} {n : Nat} {P : Program} {ops : Array Oper} {Q : Exit → Act → World → Prop} {C : World → Prop}

/-- The certificate: whatever M says that i waits for, it waits for. -/
def certB (ops : Array Oper) (M : Array Nat) : Bool :=
  (List.range ops.size).all fun i => (List.range ops.size).all fun j => !(M.getD i 0).testBit j ||
    match ops[i]? with
    | some o => o.after.any fun e => Region.binds .any e && decide (e.on < i) && (e.on == j || (M.getD e.on 0).testBit j)
    | none => false
/-- All of the first N stand ahead of the rest, and number N ahead of what is behind it. -/
def midB (ops : Array Oper) (N : Nat) : Bool :=
  decide (N < ops.size) && certB ops (Region.before ops) &&
  ((List.range ops.size).all fun i => (List.range ops.size).all fun j => !(decide (N ≤ i) && decide (j < N)) || ((Region.before ops).getD i 0).testBit j) &&
  ((List.range ops.size).all fun i => !decide (N < i) || ((Region.before ops).getD i 0).testBit N) &&
  (ops.all fun o => o.after.all fun e => !Region.binds .any e || decide (e.on < ops.size)) &&
  ((List.range ops.size).all fun i => match ops[i]? with | some o => o.after.all fun e => !Region.binds .any e || decide (e.on < i) | none => true)

def Closed (ops : Array Oper) (listed : Array Bool) : Prop :=
  ∀ i o, ops[i]? = some o → listed.getD i false = true → ∀ e ∈ o.after, Region.binds .any e = true → listed.getD e.on false = true

theorem cert_sound {M : Array Nat} (hc : certB ops M = true) {listed : Array Bool} (hcl : Closed ops listed) :
    ∀ (i : Nat) (o : Oper), ops[i]? = some o → (∀ e ∈ o.after, Region.binds .any e = true → listed.getD e.on false = true) → ∀ j, j < ops.size → (M.getD i 0).testBit j = true → listed.getD j false = true := by
  intro i
  induction i using Nat.strongRecOn with
  | ind i ih =>
    intro o ho hall j hj hb
    have hi : i < ops.size := (Array.getElem?_eq_some_iff.1 ho).1
    unfold certB at hc
    rw [List.all_eq_true] at hc
    have h1 := hc i (List.mem_range.2 hi)
    rw [List.all_eq_true] at h1
    have h2 := h1 j (List.mem_range.2 hj)
    rw [hb, ho] at h2
    simp only [Bool.not_true, Bool.false_or, Array.any_eq_true', Bool.and_eq_true, decide_eq_true_eq, Bool.or_eq_true, beq_iff_eq] at h2
    obtain ⟨e, he, ⟨hbd, hlt⟩, h3⟩ := h2
    have hl := hall e he hbd
    rcases h3 with h3 | h3
    · rw [← h3]; exact hl
    · have hes : e.on < ops.size := by omega
      obtain ⟨oe, hoe⟩ : ∃ oe, ops[e.on]? = some oe := ⟨_, Array.getElem?_eq_getElem hes⟩
      exact ih e.on hlt oe hoe (hcl e.on oe hoe hl) j hj h3

theorem closed_set {listed : Array Bool} {i : Nat} (hcl : Closed ops listed) (hr : i ∈ Region.ready .any ops listed) : Closed ops (listed.setIfInBounds i true) := by
  obtain ⟨h0, o, ho, hall⟩ := mem_ready.1 hr
  intro j oj hj hl e he hb
  by_cases hji : j = i
  · subst hji
    rw [ho] at hj; cases hj
    exact getD_set_true (hall e he hb)
  · refine getD_set_true (hcl j oj hj ?_ e he hb)
    rwa [getD_set_ne false (Ne.symm hji)] at hl

def firsts (s N : Nat) : Array Bool := Array.ofFn (n := s) fun i => decide (i.val < N)
theorem firsts_get (s N i : Nat) (d : Bool) (hi : i < s) : (firsts s N).getD i d = decide (i < N) := by
  simp [firsts, Array.getD, hi]

/-- How the whole region's record and the front's agree. -/
structure Fits (ops : Array Oper) (N : Nat) (listed listed' : Array Bool) : Prop where
  size : listed.size = ops.size
  size' : listed'.size = N
  front : ∀ j, j < N → listed[j]? = listed'[j]?
  back : ∀ j, N ≤ j → j < ops.size → listed[j]? = some false

theorem Fits.getD {N : Nat} {listed listed' : Array Bool} (h : Fits ops N listed listed') {j : Nat} (hj : j < N) (d : Bool) : listed.getD j d = listed'.getD j d := by
  simp only [Array.getD_eq_getD_getElem?, h.front j hj]

theorem wanted_extract {N : Nat} {o : Oper} (hg : ∀ j b, o.guard = some (j, b) → j < N) (a : Act) :
    Region.wanted o (yielded (ops.extract 0 N) a.tmps) = Region.wanted o (yielded ops a.tmps) := by
  unfold Region.wanted
  cases hgd : o.guard with
  | none => rfl
  | some p =>
    obtain ⟨j, b⟩ := p
    have := hg j b hgd
    have h1 : (ops.extract 0 N)[j]? = ops[j]? := by
      rw [Array.getElem?_extract]; simp; intro h2; omega
    simp [yielded, h1]

theorem all_listed {N : Nat} {listed' : Array Bool} (hN : N ≤ ops.size) (hb : ∀ i o, ops[i]? = some o → ∀ e ∈ o.after, Region.binds .any e = true → e.on < i)
    (hs : listed'.size = N) (hr : Region.ready .any (ops.extract 0 N) listed' = []) : ∀ j, j < N → listed'[j]? = some true := by
  intro j
  induction j using Nat.strongRecOn with
  | ind j ih =>
    intro hj
    have hsz : j < listed'.size := by omega
    cases hv : listed'[j] with
    | true => rw [Array.getElem?_eq_getElem hsz, hv]
    | false =>
      exfalso
      obtain ⟨o, ho⟩ : ∃ o, ops[j]? = some o := ⟨_, Array.getElem?_eq_getElem (by omega)⟩
      have hpo : (ops.extract 0 N)[j]? = some o := by
        rw [Array.getElem?_extract]
        simp only [Nat.zero_add, Nat.sub_zero]
        rw [if_pos (by omega)]; exact ho
      have hm : j ∈ Region.ready .any (ops.extract 0 N) listed' := by
        refine mem_ready.2 ⟨by simp [Array.getD, hsz, hv], o, hpo, fun e he hbd => ?_⟩
        have hlt := hb j o ho e he hbd
        have := ih e.on hlt (by omega)
        simp [Array.getD_eq_getD_getElem?, this]
      rw [hr] at hm; cases hm

theorem prefix_conv {N R : Nat} {QA : Act → Prop} (hro : F.round = none) (hN : N < ops.size) (hg : ∀ i o, i < N → ops[i]? = some o → ∀ j b, o.guard = some (j, b) → j < N)
    (hb : ∀ i o, ops[i]? = some o → ∀ e ∈ o.after, Region.binds .any e = true → e.on < i)
    (hw : ∀ (listed : Array Bool) (i : Nat) (o : Oper), Closed ops listed → ops[i]? = some o → (∀ e ∈ o.after, Region.binds .any e = true → listed.getD e.on false = true) → N ≤ i → ∀ j, j < N → listed.getD j false = true)
    (hend : ∀ a w, QA a → C w → wpAnyIn F n P .any ops Q (R + 1) (firsts ops.size N) a w) :
    ∀ (fuel : Nat) (listed listed' : Array Bool) (a : Act) (w : World), wpAnyQIn F n P .any (ops.extract 0 N) C QA fuel listed' a → Fits ops N listed listed' → Closed ops listed → listed'.toList.count false = fuel → C w →
      wpAnyIn F n P .any ops Q (fuel + (R + 1)) listed a w := by
  have hfin : ∀ (listed listed' : Array Bool), Fits ops N listed listed' → Region.ready .any (ops.extract 0 N) listed' = [] → listed = firsts ops.size N := by
    intro listed listed' hf hr
    have h1 := all_listed (by omega) hb hf.size' hr
    apply Array.ext_getElem?
    intro j
    by_cases hj : j < N
    · rw [hf.front j hj, h1 j hj]
      simp only [firsts, Array.getElem?_ofFn]
      rw [dif_pos (by omega)]
      simp [hj]
    · by_cases hj2 : j < ops.size
      · rw [hf.back j (by omega) hj2]
        simp only [firsts, Array.getElem?_ofFn]
        rw [dif_pos hj2]
        simp [hj]
      · rw [Array.getElem?_eq_none (by rw [hf.size]; omega), Array.getElem?_eq_none (by simp [firsts]; omega)]
  intro fuel
  induction fuel with
  | zero =>
    intro listed listed' a w h hf hcl _ hC
    rw [hfin listed listed' hf h.1, Nat.zero_add]
    exact hend a w h.2 hC
  | succ fuel ih =>
    intro listed listed' a w h hf hcl hcnt hC
    have hno : ¬ Region.ready .any (ops.extract 0 N) listed' = [] := by
      intro h0
      have h1 := all_listed (by omega) hb hf.size' h0
      have h2 : listed'.toList.count false = 0 := by
        rw [List.count_eq_zero]
        intro hm
        obtain ⟨j, hj, hv⟩ := List.mem_iff_getElem.1 hm
        have h3 := h1 j (by have := hf.size'; simp at hj; omega)
        have h4 : listed'.toList[j]? = some false := by rw [List.getElem?_eq_getElem hj, hv]
        rw [Array.getElem?_toList, h3] at h4
        cases h4
      omega
    have hsub : ∀ i, i < N → (i ∈ Region.ready .any ops listed ↔ i ∈ Region.ready .any (ops.extract 0 N) listed') := by
      intro i hi
      have hpo : (ops.extract 0 N)[i]? = ops[i]? := by
        rw [Array.getElem?_extract]
        simp only [Nat.zero_add, Nat.sub_zero]
        rw [if_pos (by omega)]
      rw [mem_ready, mem_ready, hpo, hf.getD hi]
      refine and_congr Iff.rfl (exists_congr fun o => and_congr_right fun ho => forall_congr' fun e => ?_)
      refine forall_congr' fun he => forall_congr' fun hbd => ?_
      rw [hf.getD (by have := hb i o ho e he hbd; omega)]
    rw [show fuel + 1 + (R + 1) = (fuel + (R + 1)) + 1 by omega]
    refine ⟨fun h0 => (hno ?_).elim, fun i hi => ?_⟩
    · cases hr : Region.ready .any (ops.extract 0 N) listed' with
      | nil => rfl
      | cons x xs =>
        have hx : x ∈ Region.ready .any (ops.extract 0 N) listed' := by rw [hr]; simp
        have hxN : x < N := by
          obtain ⟨_, o, ho, _⟩ := mem_ready.1 hx
          have := (Array.getElem?_eq_some_iff.1 ho).1
          simp at this; omega
        have := (hsub x hxN).2 hx
        rw [h0] at this; cases this
    · obtain ⟨hun, o, ho, hall⟩ := mem_ready.1 hi
      have hiN : i < N := by
        refine Nat.lt_of_not_le fun hle => ?_
        have h1 := hw listed i o hcl ho hall hle
        have h2 : listed'.toList.count false = 0 := by
          rw [List.count_eq_zero]
          intro hm
          obtain ⟨j, hj, hv⟩ := List.mem_iff_getElem.1 hm
          have hjN : j < N := by have := hf.size'; simp at hj; omega
          have h3 := h1 j hjN
          rw [hf.getD hjN] at h3
          have h4 : listed'.toList[j]? = some false := by rw [List.getElem?_eq_getElem hj, hv]
          rw [Array.getElem?_toList] at h4
          simp [Array.getD_eq_getD_getElem?, h4] at h3
        omega
      have hq := h.2 i ((hsub i hiN).1 hi)
      have hpo : (ops.extract 0 N)[i]? = some o := by
        rw [Array.getElem?_extract]
        simp only [Nat.zero_add, Nat.sub_zero]
        rw [if_pos (by omega)]; exact ho
      have hq' : qOpIn F n P ops C i (wpAnyQIn F n P .any (ops.extract 0 N) C QA fuel (listed'.setIfInBounds i true)) a := by
        unfold qOpIn at hq ⊢
        simp only [hpo] at hq
        simp only [ho]
        rw [wanted_extract (hg i o hiN ho)] at hq
        exact hq
      refine wpOpIn_of_qOpIn hro hC (fun a' w' hC' hK => ih _ _ a' w' hK ?_ (closed_set hcl hi) ?_ hC') hq'
      · refine ⟨by simp [hf.size], by simp [hf.size'], fun j hj => ?_, fun j hj hj2 => ?_⟩
        · by_cases hji : i = j
          · subst hji
            rw [Array.getElem?_setIfInBounds_self_of_lt (by rw [hf.size]; omega), Array.getElem?_setIfInBounds_self_of_lt (by rw [hf.size']; omega)]
          · rw [Array.getElem?_setIfInBounds_ne hji, Array.getElem?_setIfInBounds_ne hji, hf.front j hj]
        · rw [Array.getElem?_setIfInBounds_ne (by omega)]
          exact hf.back j hj hj2
      · rw [Array.toList_setIfInBounds, List.count_set (by have := hf.size'; simp; omega)]
        have h5 : listed'[i]? = some false := by
          rw [hf.getD hiN] at hun
          have hs : i < listed'.size := by rw [hf.size']; exact hiN
          rw [Array.getElem?_eq_getElem hs]
          simpa [Array.getD, hs] using hun
        have h6 : listed'.toList[i]'(by have := hf.size'; simp; omega) = false := by
          have := Array.getElem?_eq_some_iff.1 h5
          simpa using this.2
        rw [h6]
        simp only [beq_self_eq_true, if_true]
        have : (true == false) = false := rfl
        rw [this, hcnt]; simp

theorem closed_none (ops : Array Oper) : Closed ops (Array.replicate ops.size false) := by
  intro i o ho hl
  by_cases hi : i < ops.size <;> simp [Array.getD, hi] at hl

/-- **ONE WALK IN THE ORDER OF THE TEXT SERVES EVERY ORDER**: the first N only read, in class C0; number N acts; what is behind it only reads, in a class that its end chooses. -/
theorem wpIn_region_mid {id : Nat} {a : Act} {w : World} (N : Nat) (hro : F.round = none) (hm : P.follows .mixedOrders = true) (hB : midB ops N = true)
    (hgd : ((List.range N).all fun i => match ops[i]? with | some o => (match o.guard with | some (j, _) => decide (j < N) | none => true) | none => true) = true)
    (h1B : Region.lexB .any (ops.extract 0 N) = true) (hsel : Region.noSelect ops = true) (h2B : Region.lexFrom .any ops (ops.size - (N + 1)) (N + 1) (firsts ops.size (N + 1)) = true)
    (C0 : World → Prop) (hC : C0 { w with drawn := w.drawn + 1 })
    (h : wpQuietIn F n P (ops.extract 0 N) C0 (fun a1 => ∀ w1, C0 w1 → wpOpIn F n P ops Q N (fun a2 w2 => ∃ C1 : World → Prop, C1 w2 ∧ wpQuietIn F n P ops C1 (fun a3 => ∀ w3, C1 w3 → Q .normal a3 w3) (ops.toList.drop (N + 1)) a2) a1 w1) (ops.extract 0 N).toList a) :
    (Code.region id ops true).wpIn F n P Q a w := by
  simp only [midB, Bool.and_eq_true, decide_eq_true_eq] at hB
  obtain ⟨⟨⟨⟨⟨hN, hcert⟩, hpre⟩, hpost⟩, _⟩, hbk⟩ := hB
  have hb : ∀ i o, ops[i]? = some o → ∀ e ∈ o.after, Region.binds .any e = true → e.on < i := by
    intro i o ho e he hbd
    have hi : i < ops.size := (Array.getElem?_eq_some_iff.1 ho).1
    rw [List.all_eq_true] at hbk
    have h1 := hbk i (List.mem_range.2 hi)
    rw [ho] at h1
    simp only [Array.all_eq_true_iff_forall_mem] at h1
    have := h1 e he
    simpa [hbd] using this
  have hg : ∀ i o, i < N → ops[i]? = some o → ∀ j b, o.guard = some (j, b) → j < N := by
    intro i o hi ho j b hgj
    rw [List.all_eq_true] at hgd
    have h1 := hgd i (List.mem_range.2 hi)
    rw [ho] at h1
    simp only [hgj] at h1
    simpa using h1
  have hw : ∀ (listed : Array Bool) (i : Nat) (o : Oper), Closed ops listed → ops[i]? = some o → (∀ e ∈ o.after, Region.binds .any e = true → listed.getD e.on false = true) → N ≤ i → ∀ j, j < N → listed.getD j false = true := by
    intro listed i o hcl ho hall hNi j hj
    have hi : i < ops.size := (Array.getElem?_eq_some_iff.1 ho).1
    refine cert_sound hcert hcl i o ho hall j (by omega) ?_
    rw [List.all_eq_true] at hpre
    have h1 := hpre i (List.mem_range.2 hi)
    rw [List.all_eq_true] at h1
    have h2 := h1 j (List.mem_range.2 (by omega))
    simpa [hNi, hj] using h2
  have hext : (ops.extract 0 N).size = N := by simp; omega
  refine wpIn_region_any hm ?_
  have hsz : ops.size = N + ((ops.size - (N + 1)) + 1) := by omega
  have hlex := wpAnyQIn_lex (F := F) (n := n) (P := P) (C := C0) (md := .any) (by simp only [Region.lexB, Bool.and_eq_true] at h1B; exact h1B.1) (ops.extract 0 N).toList 0 (Array.replicate (ops.extract 0 N).size false) a (fun j => by rw [Nat.zero_add, Array.getElem?_toList])
    (by simp only [Region.lexB, Bool.and_eq_true] at h1B; simpa using h1B.2) h
  have hl2 : (ops.extract 0 N).toList.length = N := by simp; omega
  rw [hl2, hext] at hlex
  rw [show (wpAnyIn F n P .any ops Q ops.size) = wpAnyIn F n P .any ops Q (N + ((ops.size - (N + 1)) + 1)) from congrArg _ hsz]
  refine prefix_conv (C := C0) (QA := _) hro hN hg hb hw ?_ N _ _ a _ hlex ⟨by simp, by simp, fun j hj => ?_, fun j _ hj => ?_⟩ (closed_none ops) (by simp) hC
  · intro a1 w1 hQA hC1
    have hop := hQA w1 hC1
    obtain ⟨oN, hoN⟩ : ∃ oN, ops[N]? = some oN := ⟨_, Array.getElem?_eq_getElem hN⟩
    have hclF : Closed ops (firsts ops.size N) := by
      intro i o ho hl e he hbd
      have hi : i < ops.size := (Array.getElem?_eq_some_iff.1 ho).1
      rw [firsts_get _ _ _ _ hi] at hl
      have := hb i o ho e he hbd
      rw [firsts_get _ _ _ _ (by omega)]
      simp at hl ⊢; omega
    have hready : N ∈ Region.ready .any ops (firsts ops.size N) := by
      refine mem_ready.2 ⟨by rw [firsts_get _ _ _ _ hN]; simp, oN, hoN, fun e he hbd => ?_⟩
      have := hb N oN hoN e he hbd
      rw [firsts_get _ _ _ _ (by omega)]; simp; omega
    refine ⟨fun h0 => (by rw [h0] at hready; cases hready), fun i hi => ?_⟩
    obtain ⟨hun, o, ho, hall⟩ := mem_ready.1 hi
    have hi2 : i < ops.size := (Array.getElem?_eq_some_iff.1 ho).1
    have hiN : i = N := by
      rw [firsts_get _ _ _ _ hi2] at hun
      simp at hun
      refine Nat.le_antisymm (Nat.le_of_not_lt fun hlt => ?_) hun
      have h1 : (firsts ops.size N).getD N false = true := by
        refine cert_sound hcert hclF i o ho hall N hN ?_
        rw [List.all_eq_true] at hpost
        have h2 := hpost i (List.mem_range.2 hi2)
        simpa [hlt] using h2
      rw [firsts_get _ _ _ _ hN] at h1
      simp at h1
    subst hiN
    have hset : (firsts ops.size i).setIfInBounds i true = firsts ops.size (i + 1) := by
      apply Array.ext_getElem?
      intro j
      by_cases hj : j < ops.size
      · by_cases hji : i = j
        · subst hji
          rw [Array.getElem?_setIfInBounds_self_of_lt (by simp [firsts]; omega)]
          simp [firsts, hj]
        · rw [Array.getElem?_setIfInBounds_ne hji]
          simp only [firsts, Array.getElem?_ofFn]
          rw [dif_pos hj, dif_pos hj]
          simp; omega
      · rw [Array.getElem?_eq_none (by simp [firsts]; omega), Array.getElem?_eq_none (by simp [firsts]; omega)]
    rw [hset]
    refine wpOpIn_mono ?_ hop
    rintro a2 w2 ⟨C1, hC2, h2⟩
    have hlen : (ops.toList.drop (i + 1)).length = ops.size - (i + 1) := by simp
    have := wpAnyQIn_lex (F := F) (n := n) (P := P) (C := C1) (md := .any) hsel (ops.toList.drop (i + 1)) (i + 1) (firsts ops.size (i + 1)) a2 (fun j => by rw [List.getElem?_drop, Array.getElem?_toList]) (by rw [hlen]; exact h2B) h2
    rw [hlen] at this
    exact wpAnyIn_of_quiet hro (fun a3 w3 hw3 hq => hq w3 hw3) _ _ a2 w2 hC2 this
  · rw [Array.getElem?_eq_getElem (by simp; omega), Array.getElem?_eq_getElem (by simp; omega)]; simp
  · rw [Array.getElem?_eq_getElem (by simp; omega)]; simp
end
end Go.Mid
