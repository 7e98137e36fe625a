/- Plain lists: what the reader reads. -/
import Derived.Lib.IndexMore
import Derived.Lib.Strings
namespace Go.Proofs.YtpkdnmjcommbmaaDoor
open Go

/-- The first byte c parts a list. -/
def split1 (c : UInt8) : List UInt8 → Option (List UInt8 × List UInt8)
  | [] => none
  | x :: r => if x = c then some ([], r) else (split1 c r).map fun p => (x :: p.1, p.2)
theorem split1_len {c : UInt8} : ∀ {l a b : List UInt8}, split1 c l = some (a, b) → l = a ++ c :: b
  | [], _, _, h => by simp [split1] at h
  | x :: r, a, b, h => by
    unfold split1 at h
    split at h
    · simp only [Option.some.injEq, Prod.mk.injEq] at h
      obtain ⟨rfl, rfl⟩ := h
      simp [*]
    · simp only [Option.map_eq_some_iff, Prod.mk.injEq, Prod.exists] at h
      obtain ⟨a', b', h1, rfl, rfl⟩ := h
      simp [split1_len h1]
theorem index1 (c : UInt8) : ∀ l : List UInt8, (split1 c l = none ∧ Lib.index l [c] = -1) ∨ ∃ a b, split1 c l = some (a, b) ∧ Lib.index l [c] = a.length
  | [] => .inl ⟨rfl, rfl⟩
  | x :: r => by
    by_cases hx : x = c
    · subst hx
      exact .inr ⟨[], r, by simp [split1], by simp [Lib.index]⟩
    · have hp : ([c].isPrefixOf (x :: r)) = false := by simp [List.isPrefixOf]; exact fun h => hx h.symm
      rcases index1 c r with ⟨h1, h2⟩ | ⟨a, b, h1, h2⟩
      · exact .inl ⟨by simp [split1, hx, h1], by simp [Lib.index, hp, h2]⟩
      · refine .inr ⟨x :: a, b, by simp [split1, hx, h1], ?_⟩
        have : ((a.length : Int) == -1) = false := by rw [beq_eq_false_iff_ne]; omega
        simp [Lib.index, hp, h2, this]
theorem cut1 (c : UInt8) (l : List UInt8) : Lib.cut l [c] = match split1 c l with | none => (l, [], false) | some (a, b) => (a, b, true) := by
  unfold Lib.cut
  rcases index1 c l with ⟨h1, h2⟩ | ⟨a, b, h1, h2⟩
  · rw [h1, h2]; rfl
  · rw [h1, h2, if_pos (by omega)]
    have := split1_len h1
    subst this
    simp
theorem split1_none {c : UInt8} : ∀ {l : List UInt8}, split1 c l = none ↔ c ∉ l
  | [] => by simp [split1]
  | x :: r => by
    unfold split1
    by_cases hx : x = c
    · simp [hx]
    · rw [if_neg hx]
      simp [split1_none (l := r)]
      exact fun _ h => hx h.symm
theorem split1_notin {c : UInt8} : ∀ {l a b : List UInt8}, split1 c l = some (a, b) → c ∉ a
  | [], _, _, h => by simp [split1] at h
  | x :: r, a, b, h => by
    unfold split1 at h
    split at h
    · simp only [Option.some.injEq, Prod.mk.injEq] at h
      obtain ⟨rfl, rfl⟩ := h
      simp
    · rename_i hx
      simp only [Option.map_eq_some_iff, Prod.mk.injEq, Prod.exists] at h
      obtain ⟨a', b', h1, rfl, rfl⟩ := h
      simp only [List.mem_cons, not_or]
      exact ⟨fun h => hx h.symm, split1_notin h1⟩
theorem split1_app {c : UInt8} {a b : List UInt8} (h : c ∉ a) : split1 c (a ++ c :: b) = some (a, b) := by
  induction a with
  | nil => simp [split1]
  | cons x r ih =>
    simp only [List.mem_cons, not_or] at h
    simp [split1, ih h.2, Ne.symm h.1]

/-- The field behind a quote, and what stands behind its end. -/
def quotedL : Nat → List UInt8 → Option (List UInt8 × List UInt8)
  | 0, _ => none
  | n + 1, l =>
    match split1 34 l with
    | none => none
    | some (a, 34 :: b) => (quotedL n b).map fun p => (a ++ 34 :: p.1, p.2)
    | some (a, b) => some (a, b)
theorem quotedL_more : ∀ {n l p}, quotedL n l = some p → ∀ {m}, n ≤ m → quotedL m l = some p
  | 0, _, _, h, _, _ => by simp [quotedL] at h
  | n + 1, l, p, h, m, hm => by
    obtain ⟨m, rfl⟩ : ∃ k, m = k + 1 := ⟨m - 1, by omega⟩
    unfold quotedL at h ⊢
    split at h
    · simp at h
    · rename_i a b hs
      simp only [Option.map_eq_some_iff] at h ⊢
      obtain ⟨q, h1, h2⟩ := h
      exact ⟨q, quotedL_more h1 (by omega), h2⟩
    · simpa using h
theorem quotedL_enough : ∀ {n l}, l.length < n → ∀ {m}, n ≤ m → quotedL m l = quotedL n l
  | 0, _, h, _, _ => by omega
  | n + 1, l, h, m, hm => by
    obtain ⟨m, rfl⟩ : ∃ k, m = k + 1 := ⟨m - 1, by omega⟩
    unfold quotedL
    split
    · rfl
    · rename_i a b hs
      have := split1_len hs
      rw [quotedL_enough (n := n) (m := m) (by subst this; simp at h; omega) (by omega)]
    · rfl
theorem quotedL_suffix : ∀ {n l f r}, quotedL n l = some (f, r) → ∃ q, l = q ++ 34 :: r ∧ f.length ≤ q.length
  | 0, _, _, _, h => by simp [quotedL] at h
  | n + 1, l, f, r, h => by
    unfold quotedL at h
    split at h
    · simp at h
    · rename_i a b hs
      simp only [Option.map_eq_some_iff, Prod.mk.injEq, Prod.exists] at h
      obtain ⟨f', r', h1, rfl, rfl⟩ := h
      obtain ⟨q, rfl, hq⟩ := quotedL_suffix h1
      exact ⟨a ++ 34 :: 34 :: q, by rw [split1_len hs]; simp, by simp; omega⟩
    · rename_i a b hb hs
      simp only [Option.some.injEq, Prod.mk.injEq] at h
      obtain ⟨rfl, rfl⟩ := h
      exact ⟨a, split1_len hs, Nat.le_refl _⟩
theorem quotedL_none {n : Nat} {l : List UInt8} (h : split1 34 l = none) : quotedL n l = none := by
  cases n <;> simp [quotedL, h]
theorem quotedL_two {n : Nat} {l a b : List UInt8} (h : split1 34 l = some (a, 34 :: b)) (hn : l.length < n) : quotedL n l = (quotedL n b).map fun p => (a ++ 34 :: p.1, p.2) := by
  obtain ⟨n, rfl⟩ : ∃ m, n = m + 1 := ⟨n - 1, by omega⟩
  have h1 : quotedL (n + 1) l = (quotedL n b).map fun p => (a ++ 34 :: p.1, p.2) := by
    conv => lhs; unfold quotedL
    rw [h]
    rfl
  have hl := split1_len h
  rw [h1, quotedL_enough (n := n) (m := n + 1) (by subst hl; simp at hn; omega) (by omega)]
theorem quotedL_one {n : Nat} {l a b : List UInt8} (h : split1 34 l = some (a, b)) (hb : ¬ ∃ z, b = 34 :: z) (hn : 0 < n) : quotedL n l = some (a, b) := by
  obtain ⟨n, rfl⟩ : ∃ m, n = m + 1 := ⟨n - 1, by omega⟩
  unfold quotedL
  rw [h]
  split
  · rename_i h1; simp at h1
  · rename_i h1; simp at h1; exact (hb ⟨_, h1.2⟩).elim
  · rename_i h1; simp at h1; simp [h1]
theorem prefix_no {b : List UInt8} {c : UInt8} (hb : ¬ ∃ z, b = c :: z) : Lib.hasPrefix b [c] = false := by
  cases b with
  | nil => rfl
  | cons x r =>
    have : c ≠ x := fun e => hb ⟨r, by rw [e]⟩
    simp [Lib.hasPrefix, List.isPrefixOf, this]
end Go.Proofs.YtpkdnmjcommbmaaDoor
