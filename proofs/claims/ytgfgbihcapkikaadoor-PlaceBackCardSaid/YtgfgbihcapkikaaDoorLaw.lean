/- PlaceBack, the plain law: what is written is read as it was; what is read is right, and written and read as the same. -/
import Derived.Test.YtgfgbihcapkikaaDoorCells
namespace Go.Proofs.YtgfgbihcapkikaaDoor
open Go.RowKit

theorem toNat_of (n : Nat) (h : n < 256) : (UInt8.ofNat n).toNat = n := by simp [Nat.mod_eq_of_lt h]
theorem head_app {α : Type} {a b : List α} (h : a ≠ []) : (a ++ b).head? = a.head? := by
  cases a with
  | nil => exact absurd rfl h
  | cons x r => rfl
theorem cutN_head {p : Nat → Bool} {m : Nat} {b : List UInt8} (h : ∀ x, b.head? = some x → p x.toNat = false) : cutN p m b = 0 := by
  cases m with
  | zero => exact cutN_zero _ _
  | succ m =>
    cases b with
    | nil => rfl
    | cons c r => simp [cutN, h c rfl]
theorem cutN_app {p : Nat → Bool} {b : List UInt8} : ∀ (a : List UInt8) (m : Nat), (∀ x ∈ a, p x.toNat = true) → (∀ x, b.head? = some x → p x.toNat = false) → a.length ≤ m → cutN p m (a ++ b) = a.length
  | [], m, _, h, _ => by rw [List.nil_append, cutN_head h]; rfl
  | c :: r, 0, _, _, hm => by simp at hm
  | c :: r, m + 1, ha, hb, hm => by
    have := cutN_app (p := p) (b := b) r m (fun x hx => ha x (by simp [hx])) hb (by simpa using hm)
    simp only [List.cons_append, cutN, ha c (by simp), if_true, this, List.length_cons]
theorem dec_ne (n : Nat) : Lib.decDigits n ≠ [] := by
  rw [Lib.decDigits]; split <;> simp
theorem dec_all (n : Nat) : ∀ c ∈ Lib.decDigits n, 48 ≤ c.toNat ∧ c.toNat ≤ 57 := by
  induction n using Nat.strongRecOn with
  | ind n ih =>
    rw [Lib.decDigits]
    split
    · rename_i h
      intro c hc
      simp only [List.mem_singleton] at hc
      subst hc
      rw [toNat_of _ (by omega)]; omega
    · rename_i h
      intro c hc
      rcases List.mem_append.1 hc with hc | hc
      · exact ih (n / 10) (by omega) c hc
      · simp only [List.mem_singleton] at hc
        subst hc
        rw [toNat_of _ (by omega)]; omega
theorem num_snoc (l : List UInt8) (c : UInt8) : numN (l ++ [c]) = numN l * 10 + (c.toNat - 48) := by simp [numN]
theorem num_dec (n : Nat) : numN (Lib.decDigits n) = n := by
  induction n using Nat.strongRecOn with
  | ind n ih =>
    rw [Lib.decDigits]
    split
    · rename_i h
      have := num_snoc [] (UInt8.ofNat (48 + n))
      rw [List.nil_append] at this
      rw [this, toNat_of _ (by omega)]
      simp [numN]
    · rename_i h
      rw [num_snoc, ih (n / 10) (by omega), toNat_of _ (by omega)]
      omega
theorem dec_head (n : Nat) (h1 : 1 ≤ n) : (Lib.decDigits n).head? ≠ some 48 := by
  induction n using Nat.strongRecOn with
  | ind n ih =>
    rw [Lib.decDigits]
    split
    · rename_i h
      intro he
      simp only [List.head?_cons, Option.some.injEq] at he
      have := congrArg UInt8.toNat he
      rw [toNat_of _ (by omega)] at this
      have h48 : (48 : UInt8).toNat = 48 := rfl
      omega
    · rename_i h
      have hne := dec_ne (n / 10)
      rw [head_app hne]
      exact ih (n / 10) (by omega) (by omega)
theorem ltr_all (c : Nat) (h1 : 1 ≤ c) (h2 : c ≤ 16384) : ∀ x ∈ ltr c, 65 ≤ x.toNat ∧ x.toNat ≤ 90 := by
  unfold ltr
  split
  · intro x hx
    simp only [List.mem_singleton] at hx
    subst hx; rw [toNat_of _ (by omega)]; omega
  · split
    · intro x hx
      simp only [List.mem_cons, List.mem_nil_iff, or_false] at hx
      rcases hx with rfl | rfl <;> rw [toNat_of _ (by omega)] <;> omega
    · intro x hx
      simp only [List.mem_cons, List.mem_nil_iff, or_false] at hx
      rcases hx with rfl | rfl | rfl <;> rw [toNat_of _ (by omega)] <;> omega
theorem letN_up (c : Nat) (h1 : 65 ≤ c) (h2 : c ≤ 90) : letN c = c - 64 := by unfold letN; rw [if_pos ⟨h1, h2⟩]
theorem ltr_ne (c : Nat) : ltr c ≠ [] := by unfold ltr; (repeat' split) <;> simp
theorem col_ltr (c : Nat) (h1 : 1 ≤ c) (h2 : c ≤ 16384) : colN (ltr c) = c := by
  unfold ltr
  split
  · simp only [colN, List.foldl]
    rw [toNat_of _ (by omega), letN_up _ (by omega) (by omega)]; omega
  · split
    · simp only [colN, List.foldl]
      rw [toNat_of _ (by omega), toNat_of _ (by omega), letN_up _ (by omega) (by omega), letN_up _ (by omega) (by omega)]; omega
    · simp only [colN, List.foldl]
      rw [toNat_of _ (by omega), toNat_of _ (by omega), toNat_of _ (by omega), letN_up _ (by omega) (by omega), letN_up _ (by omega) (by omega), letN_up _ (by omega) (by omega)]; omega
theorem colL_ltr (c : Nat) (h1 : 1 ≤ c) (h2 : c ≤ 16384) : colL (ltr c) = (c, 0) := by
  have hl := ltr_len c
  have hn : 0 < (ltr c).length := List.length_pos_iff.2 (ltr_ne c)
  unfold colL
  rw [if_neg (by omega), if_neg, col_ltr c h1 h2, if_neg (by omega)]
  rw [List.any_eq_true]
  rintro ⟨x, hx, h⟩
  have := ltr_all c h1 h2 x hx
  rw [letN_up _ this.1 this.2] at h
  have h3 := beq_iff_eq.1 h
  omega
theorem d1_no {x : UInt8} (h : x.toNat ≠ 36) : p_d1 x.toNat = false := by simp [p_d1, h]
theorem head_mem {α : Type} {l : List α} {x : α} (h : l.head? = some x) : x ∈ l := by
  cases l with
  | nil => simp at h
  | cons a r => simp at h; subst h; simp
theorem parts (c r : Nat) (fr fc : Bool) (h1 : 1 ≤ c) (h2 : c ≤ 16384) : ∃ l, l = printL r c fr fc ∧
    fcN l = (if fc then 1 else 0) ∧ r1 l = ltr c ++ ((if fr then [36] else []) ++ Lib.decDigits r) ∧ lts l = ltr c ∧ r2 l = (if fr then [36] else []) ++ Lib.decDigits r ∧ frN l = (if fr then 1 else 0) ∧ r3 l = Lib.decDigits r ∧ dgs l = Lib.decDigits r ∧ r4 l = [] := by
  refine ⟨_, rfl, ?_⟩
  have la := ltr_all c h1 h2
  have da := dec_all r
  have e : printL r c fr fc = (if fc then [36] else []) ++ (ltr c ++ ((if fr then [36] else []) ++ Lib.decDigits r)) := by simp [printL]
  generalize hL : printL r c fr fc = L at *
  have hlen : (ltr c).length ≤ L.length ∧ (Lib.decDigits r).length ≤ L.length := by rw [e]; simp only [List.length_append]; omega
  have k1 : fcN L = (if fc then [36] else [] : List UInt8).length := by
    unfold fcN; rw [e]
    refine cutN_app _ _ ?_ ?_ ?_
    · cases fc <;> simp [p_d1]
    · intro x hx
      rw [head_app (ltr_ne c)] at hx
      have := la x (head_mem hx)
      exact d1_no (by omega)
    · cases fc <;> simp
  have k2 : r1 L = ltr c ++ ((if fr then [36] else []) ++ Lib.decDigits r) := by
    unfold r1; rw [k1, e, List.drop_left]
  have k3 : ltN L = (ltr c).length := by
    unfold ltN; rw [k2]
    refine cutN_app _ _ (fun x hx => ?_) ?_ hlen.1
    · have := la x hx
      simp only [p_d3, decide_eq_true_eq]; rw [letN_up _ this.1 this.2]; omega
    · intro x hx
      cases fr
      · simp only [Bool.false_eq_true, if_false, List.nil_append] at hx
        have := da x (head_mem hx)
        simp only [p_d3, decide_eq_false_iff_not]; unfold letN; rw [if_neg (by omega), if_neg (by omega)]; omega
      · simp at hx; subst hx; decide
  have k4 : lts L = ltr c := by unfold lts; rw [k3, k2, List.take_left]
  have k5 : r2 L = (if fr then [36] else []) ++ Lib.decDigits r := by unfold r2; rw [k3, k2, List.drop_left]
  have k6 : frN L = (if fr then [36] else [] : List UInt8).length := by
    unfold frN; rw [k5]
    refine cutN_app _ _ ?_ ?_ ?_
    · cases fr <;> simp [p_d1]
    · intro x hx
      have := da x (head_mem hx)
      exact d1_no (by omega)
    · cases fr <;> simp
  have k7 : r3 L = Lib.decDigits r := by unfold r3; rw [k6, k5, List.drop_left]
  have k8 : dgN L = (Lib.decDigits r).length := by
    unfold dgN; rw [k7]
    have := cutN_app (p := p_d2) (b := []) (Lib.decDigits r) L.length (fun x hx => (p_d2_iff _).2 (da x hx)) (by simp) hlen.2
    rwa [List.append_nil] at this
  have k9 : dgs L = Lib.decDigits r := by unfold dgs; rw [k8, k7, List.take_length]
  have k10 : r4 L = [] := by unfold r4; rw [k8, k7, List.drop_length]
  refine ⟨by rw [k1]; cases fc <;> rfl, k2, k4, k5, by rw [k6]; cases fr <;> rfl, k7, k9, k10⟩
theorem parse_print (r c : Nat) (fr fc : Bool) (h0 : 1 ≤ r) (h : r ≤ 1048576) (h1 : 1 ≤ c) (h2 : c ≤ 16384) : parseL (printL r c fr fc) = ⟨r, c, fr, fc, 0⟩ := by
  obtain ⟨l, hl, k1, k2, k3, k4, k5, k6, k7, k8⟩ := parts c r fr fc h1 h2
  rw [← hl]
  have hcol := colL_ltr c h1 h2
  have hnb : ¬ Bad l := by
    rintro (k | k | k | k | k)
    · rw [k3, hcol] at k; simp at k
    · rw [k7] at k; exact dec_ne r k
    · rw [k7] at k; have := dec_len r h; omega
    · rw [k7] at k; exact dec_head r h0 k
    · rw [k8] at k; simp at k
  rw [parseL, if_neg hnb, k3, hcol, k7, num_dec, if_neg (by simp; omega), k1, k5, k4]
  have hne : l ≠ [] := by intro e; rw [e] at k3; exact ltr_ne c (by rw [← k3]; rfl)
  congr 1
  · cases fr <;> simp
  · cases fc
    · simp
    · cases l with
      | nil => exact absurd rfl hne
      | cons a b => simp
theorem parse_err (l : List UInt8) (h : (parseL l).err ≠ 0) : (parseL l).row = 0 ∧ (parseL l).col = 0 ∧ (parseL l).fr = false ∧ (parseL l).fc = false := by
  unfold parseL at h ⊢
  split
  · exact ⟨rfl, rfl, rfl, rfl⟩
  · rename_i hb
    rw [if_neg hb] at h
    split
    · exact ⟨rfl, rfl, rfl, rfl⟩
    · rename_i hc
      rw [if_neg hc] at h
      exact absurd rfl h
theorem col_pos (l : List UInt8) (h : (colL l).2 = 0) : 1 ≤ (colL l).1 ∧ (colL l).1 ≤ 16384 := by
  unfold colL at h ⊢
  split at h
  · simp at h
  · rename_i h1
    rw [if_neg h1]
    split at h
    · simp at h
    · rename_i h2
      rw [if_neg h2]
      split at h
      · simp at h
      · rename_i h3
        rw [if_neg h3]
        refine ⟨?_, by simp only; omega⟩
        simp only
        have hne : l ≠ [] := by intro e; rw [e] at h1; simp at h1
        rw [← List.dropLast_concat_getLast hne, colN_snoc]
        have : letN (l.getLast hne).toNat ≠ 0 := by
          intro e
          apply h2
          rw [List.any_eq_true]
          exact ⟨_, List.getLast_mem hne, by simp [e]⟩
        omega
theorem num_pos (l : List UInt8) (hne : l ≠ []) (hall : ∀ c ∈ l, 48 ≤ c.toNat ∧ c.toNat ≤ 57) (h48 : l.head? ≠ some 48) : 1 ≤ numN l := by
  have a : ∀ (l : List UInt8) (acc : Nat), acc ≤ l.foldl (fun n c => n * 10 + (c.toNat - 48)) acc := by
    intro l
    induction l with
    | nil => intro acc; simp
    | cons x r ih => intro acc; rw [List.foldl_cons]; exact Nat.le_trans (by omega) (ih _)
  cases l with
  | nil => exact absurd rfl hne
  | cons x r =>
    have hx := hall x (by simp)
    have : x.toNat ≠ 48 := fun e => h48 (by rw [← UInt8.toNat_inj.1 (show x.toNat = (48 : UInt8).toNat from e)]; rfl)
    unfold numN
    rw [List.foldl_cons]
    exact Nat.le_trans (by omega) (a r _)
theorem parse_right (l : List UInt8) (h : (parseL l).err = 0) : 1 ≤ (parseL l).row ∧ (parseL l).row ≤ 1048576 ∧ 1 ≤ (parseL l).col ∧ (parseL l).col ≤ 16384 := by
  unfold parseL at h ⊢
  split
  · rename_i hb; rw [if_pos hb] at h; simp at h
  · rename_i hb
    rw [if_neg hb] at h
    split
    · rename_i hc; rw [if_pos hc] at h; simp at h
    · rename_i hc
      have hc0 : (colL (lts l)).2 = 0 := by
        rcases Nat.eq_zero_or_pos (colL (lts l)).2 with h | h
        · exact h
        · exact absurd (.inl (by omega)) hc
      have := col_pos _ hc0
      refine ⟨num_pos _ (fun e => hb (.inr (.inl e))) (dgs_all l) (fun e => hb (.inr (.inr (.inr (.inl e))))), ?_, this.1, this.2⟩
      simp only
      omega
theorem parse_back (l : List UInt8) (h : (parseL l).err = 0) : parseL (printL (parseL l).row (parseL l).col (parseL l).fr (parseL l).fc) = parseL l := by
  obtain ⟨a, b, c, d⟩ := parse_right l h
  rw [parse_print _ _ _ _ a b c d]
  generalize parseL l = x at *
  obtain ⟨x1, x2, x3, x4, x5⟩ := x
  simp at h
  subst h
  rfl
end Go.Proofs.YtgfgbihcapkikaaDoor
