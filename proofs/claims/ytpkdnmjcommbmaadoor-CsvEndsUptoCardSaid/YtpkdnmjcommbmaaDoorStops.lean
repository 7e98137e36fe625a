/- Where the first byte stands at which a plain field stops: by runes as by bytes. -/
import Derived.Shelf.GgClosure.StringsIndexFunc
import Derived.Laws.RangeAny
import Derived.Laws.RangeString
namespace Go.Proofs.YtpkdnmjcommbmaaDoor
open Go

def stopR (r : Nat) : Bool := r == 10 || r == 13 || r == 34
def stopB (c : UInt8) : Bool := stopR c.toNat
def tw (l : List UInt8) : List UInt8 := l.takeWhile fun c => !stopB c

theorem get_list (s : ByteArray) (i : Nat) (h : i < s.size) : s.data.toList[i]? = some s[i] := by
  have : i < s.data.toList.length := by simpa using h
  rw [List.getElem?_eq_getElem this]; rfl
theorem get!_of (s : ByteArray) (i : Nat) (h : i < s.size) : s.get! i = s[i] := by
  show s.data[i]! = s.data[i]
  exact getElem!_pos _ _ _

/-- The bytes of a rune of several are all from 128 on. -/
theorem cont_high (s : ByteArray) (pos j : Nat) (h0 : 0 < j) (hj : j < (Utf8.decode s pos).2) : pos + j < s.size ∧ 128 ≤ (s.get! (pos + j)).toNat := by
  unfold Utf8.decode at hj
  simp only [] at hj
  repeat' split at hj
  all_goals (try (simp at hj; omega))
  all_goals simp only [Bool.and_eq_true, decide_eq_true_eq, beq_iff_eq] at *
  all_goals (try simp at hj)
  · obtain rfl : j = 1 := by omega
    omega
  · have : j = 1 ∨ j = 2 := by omega
    rcases this with rfl | rfl <;> omega
  · have : j = 1 ∨ j = 2 ∨ j = 3 := by omega
    rcases this with rfl | rfl | rfl <;> omega

theorem tw_skip (l : List UInt8) (k : Nat) (hk : k ≤ l.length) (h : ∀ j c, j < k → l[j]? = some c → stopB c = false) : tw l = l.take k ++ tw (l.drop k) := by
  induction k generalizing l with
  | zero => simp
  | succ k ih =>
    cases l with
    | nil => simp at hk
    | cons x r =>
      have h0 := h 0 x (by omega) rfl
      have := ih r (by simpa using hk) (fun j c hj hc => h (j + 1) c (by omega) (by simpa using hc))
      simp [tw, h0] at this ⊢
      exact this
theorem idx_from (s : ByteArray) : ∀ (f pos : Nat), s.size ≤ pos + f →
    Lib.idxFuncFrom stopR true s f pos = if (tw (s.data.toList.drop pos)).length = (s.data.toList.drop pos).length then -1 else ((pos + (tw (s.data.toList.drop pos)).length : Nat) : Int)
  | 0, pos, h => by
    have : s.data.toList.drop pos = [] := List.drop_eq_nil_of_le (by simpa using h)
    rw [this]; rfl
  | f + 1, pos, h => by
    unfold Lib.idxFuncFrom
    by_cases hlt : pos < s.size
    · rw [if_pos hlt]
      have hd : s.data.toList.drop pos = s[pos] :: s.data.toList.drop (pos + 1) := by
        rw [List.drop_eq_getElem_cons (by simpa using hlt)]; rfl
      by_cases ha : (s[pos]'hlt).toNat < 128
      · rw [decode_ascii s pos hlt ha]
        simp only
        by_cases hs : stopR (s[pos]'hlt).toNat = true
        · rw [if_pos hs, hd]
          simp [tw, stopB, hs]
        · rw [if_neg hs, idx_from s f (pos + 1) (by omega)]
          have hs' : stopB (s[pos]'hlt) = false := by simpa [stopB] using hs
          have ht : tw (s[pos] :: s.data.toList.drop (pos + 1)) = s[pos] :: tw (s.data.toList.drop (pos + 1)) := by simp [tw, hs']
          rw [hd, ht]
          simp only [List.length_cons, Nat.add_right_cancel_iff]
          split <;> first | rfl | omega
      · obtain ⟨h1, h2⟩ := decode_high s pos hlt (by omega)
        have hr : ¬ stopR (Utf8.decode s pos).1 = true := by
          simp [stopR]; omega
        rw [if_neg hr, idx_from s f (pos + (Utf8.decode s pos).2) (by omega)]
        have hw : pos + (Utf8.decode s pos).2 ≤ s.size := by
          by_cases h3 : (Utf8.decode s pos).2 = 1
          · omega
          · have := (cont_high s pos ((Utf8.decode s pos).2 - 1) (by omega) (by omega)).1
            omega
        have hhi : ∀ j, j < (Utf8.decode s pos).2 → 128 ≤ (s.get! (pos + j)).toNat := by
          intro j hj
          by_cases h3 : j = 0
          · subst h3
            rw [Nat.add_zero, get!_of s pos hlt]; omega
          · exact (cont_high s pos j (by omega) hj).2
        generalize (Utf8.decode s pos).2 = k at *
        have hlen : (s.data.toList.drop pos).length = s.size - pos := by simp
        have hsk : tw (s.data.toList.drop pos) = (s.data.toList.drop pos).take k ++ tw ((s.data.toList.drop pos).drop k) := by
          refine tw_skip _ k (by omega) fun j c hj hc => ?_
          rw [List.getElem?_drop, get_list s (pos + j) (by omega)] at hc
          have h4 := hhi j hj
          rw [get!_of s (pos + j) (by omega)] at h4
          simp only [Option.some.injEq] at hc
          subst hc
          simp [stopB, stopR]; omega
        rw [hsk, List.drop_drop]
        simp only [List.length_append, List.length_take, List.length_drop]
        have hl2 : s.data.toList.length = s.size := by simp
        rw [hl2]
        split <;> split <;> omega
    · rw [if_neg hlt]
      have : s.data.toList.drop pos = [] := List.drop_eq_nil_of_le (by simp; omega)
      rw [this]; rfl
theorem idx_stop (s : ByteArray) : Lib.idxFunc stopR true s = if (tw s.data.toList).length = s.data.toList.length then -1 else ((tw s.data.toList).length : Int) := by
  have := idx_from s s.size 0 (by omega)
  simpa [Lib.idxFunc] using this
end Go.Proofs.YtpkdnmjcommbmaaDoor
