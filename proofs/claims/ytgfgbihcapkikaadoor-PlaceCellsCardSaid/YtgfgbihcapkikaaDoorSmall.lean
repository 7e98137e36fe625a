/- place: the smallest functions. -/
import Derived.Test.YtgfgbihcapkikaaDoorBase
namespace Go.Proofs.YtgfgbihcapkikaaDoor
open Go.RowKit

/-- A letter's number, from 1 on; 0: it is none. -/
def letN (c : Nat) : Nat := if 65 ≤ c ∧ c ≤ 90 then c - 64 else if 97 ≤ c ∧ c ≤ 122 then c - 96 else 0
theorem letN_le (c : Nat) : letN c ≤ 26 := by unfold letN; (repeat' split) <;> omega
theorem refLetter_any (c : UInt8) (w : World) : Calls Tryd.prog 25 #[.int .u8 (c.toNat : Int)] w fun e w' => e = .returned (.int .i64 (letN c.toNat)) ∧ w = w' := by
  have h256 : c.toNat < 256 := c.toNat_lt
  go_enter Tryd.func25, Tryd.ntmps25
  go_wp2_with fail
  all_goals (go_ret; exact ⟨ret_int (by unfold letN; (repeat' split) <;> omega), rfl⟩)
theorem andNot_all : ∀ n : Fin 256, bits BinOp.andNot IntKind.u8 ((n.val : Nat) : Int) 32 = ((n.val / 64 * 64 + n.val % 32 : Nat) : Int) := by decide +kernel
theorem andNot32 (c : UInt8) : bits BinOp.andNot IntKind.u8 (c.toNat : Int) 32 = ((c.toNat / 64 * 64 + c.toNat % 32 : Nat) : Int) := andNot_all ⟨c.toNat, c.toNat_lt⟩
theorem letter_any (c : UInt8) (w : World) : Calls Tryd.prog 21 #[.int .u8 (c.toNat : Int)] w fun e w' => e = .returned (.int .i64 (letN c.toNat)) ∧ w = w' := by
  have h256 : c.toNat < 256 := c.toNat_lt
  obtain ⟨d, hd, hd2⟩ : ∃ d : Nat, bits BinOp.andNot IntKind.u8 (c.toNat : Int) 32 = (d : Int) ∧ d = c.toNat / 64 * 64 + c.toNat % 32 := ⟨_, andNot32 c, rfl⟩
  have HD := hid hd2
  have h3 : d < 256 := by omega
  clear hd2
  go_enter Tryd.func21, Tryd.ntmps21
  go_wp2_with fail
  all_goals (go_ret; exact ⟨ret_int (by have := HD.out; unfold letN; (repeat' split) <;> omega), rfl⟩)
def isB (r c : Int) : Bool := decide (1 ≤ r ∧ r ≤ 1048576 ∧ 1 ≤ c ∧ c ≤ 16384)
theorem is_any (r c : Int) (w : World) : Calls Tryd.prog 12 #[.agg #[.int .i64 r, .int .i64 c]] w fun e w' => e = .returned (.bool (isB r c)) ∧ Below w.heap.size w w' := by
  go_enter Tryd.func12, Tryd.ntmps12
  go_wp2_with fail
  all_goals (go_ret; refine ⟨ret_bool ?_, (Below.refl _ _).alloc (Nat.le_refl _) _⟩; unfold isB; first | (rw [decide_eq_decide]; omega) | (symm; rw [decide_eq_false_iff_not]; omega))
theorem refPlace_any (r c : Int) (w : World) : Calls Tryd.prog 14 #[.agg #[.int .i64 r, .int .i64 c]] w fun e w' => e = .returned (.bool (isB r c)) ∧ Below w.heap.size w w' := by
  go_enter Tryd.func14, Tryd.ntmps14
  go_wp2_with fail
  all_goals (go_ret; refine ⟨ret_bool ?_, (Below.refl _ _).alloc (Nat.le_refl _) _⟩; unfold isB; first | (rw [decide_eq_decide]; omega) | (symm; rw [decide_eq_false_iff_not]; omega))
theorem extract1 (s : ByteArray) : s.extract 1 s.size = bas s.data.toList.tail := by
  apply ByteArray.ext
  rw [ByteArray.data_extract]
  apply Array.toList_inj.1
  simp [bas]
  exact List.take_of_length_le (by simp)
/-- A text behind a $ that it may begin with. -/
def dollarL : List UInt8 → List UInt8 × Bool
  | [] => ([], false)
  | c :: r => if c = 36 then (r, true) else (c :: r, false)
theorem dollar_any (s : ByteArray) (hs : s.size ≤ maxLen) (w : World) : Calls Tryd.prog 24 #[.string s] w fun e w' => e = .returned (.tuple #[.string (bas (dollarL s.data.toList).1), .bool (dollarL s.data.toList).2]) ∧ w = w' := by
  unfold maxLen at hs
  obtain ⟨l, hl⟩ : ∃ l, s.data.toList = l := ⟨_, rfl⟩
  have HL := hid hl
  have H1 := hid (extract1 s)
  rw [hl]
  clear hl
  go_enter Tryd.func24, Tryd.ntmps24
  go_wp2_with fail
  · have h0 : 0 < s.size := by assumption
    have he : ((s[0].toNat : Int) == 36) = true := by assumption
    have h1 : ∃ r, l = 36 :: r := by
      have := HL.out
      cases l with
      | nil => rw [size_list, this] at h0; simp at h0
      | cons c r =>
        have h2 : s[0] = c := by
          show s.data[0] = c
          have h3 : s.data.toList[0]? = some c := by rw [this]; rfl
          simpa using (List.getElem?_eq_some_iff.1 h3).2
        rw [h2] at he
        have h4 : c.toNat = 36 := by have := beq_iff_eq.1 he; omega
        exact ⟨r, by rw [← UInt8.toNat_inj.1 (by rw [h4]; rfl : c.toNat = (36 : UInt8).toNat)]⟩
    obtain ⟨r, rfl⟩ := h1
    go_ret2
    refine ⟨?_, rfl⟩
    rw [H1.out, HL.out]
    rfl
  · have h0 : 0 < s.size := by assumption
    have he : ((s[0].toNat : Int) == 36) = false := by assumption
    have h1 : dollarL l = (l, false) := by
      have := HL.out
      cases l with
      | nil => rfl
      | cons c r =>
        have h2 : s[0] = c := by
          show s.data[0] = c
          have h3 : s.data.toList[0]? = some c := by rw [this]; rfl
          simpa using (List.getElem?_eq_some_iff.1 h3).2
        rw [h2] at he
        have h4 : c ≠ 36 := by rintro rfl; simp at he
        simp [dollarL, h4]
    go_ret2
    refine ⟨?_, rfl⟩
    rw [h1, ← HL.out, ← bas_of]; rfl
  · have h1 : dollarL l = (l, false) := by
      have := HL.out
      have h0 : ¬ 0 < s.size := by assumption
      rw [size_list, this] at h0
      cases l with
      | nil => rfl
      | cons c r => simp at h0
    go_ret2
    refine ⟨?_, rfl⟩
    rw [h1, ← HL.out, ← bas_of]; rfl
theorem d1_any (c : UInt8) (w : World) : Calls Tryd.prog 18 #[.int .u8 (c.toNat : Int)] w fun e w' => e = .returned (.bool (decide (c.toNat = 36))) ∧ w = w' := by
  go_enter Tryd.func18, Tryd.ntmps18
  go_wp2_with fail
  go_ret
  refine ⟨ret_bool ?_, rfl⟩
  rw [Bool.eq_iff_iff]; simp; omega
theorem d2_any (c : UInt8) (w : World) : Calls Tryd.prog 19 #[.int .u8 (c.toNat : Int)] w fun e w' => e = .returned (.bool (decide (48 ≤ c.toNat ∧ c.toNat ≤ 57))) ∧ w = w' := by
  go_enter Tryd.func19, Tryd.ntmps19
  go_wp2_with fail
  all_goals go_ret
  all_goals refine ⟨ret_bool ?_, rfl⟩
  all_goals (rw [Bool.eq_iff_iff]; simp; omega)
theorem d3_any (c : UInt8) (w : World) : Calls Tryd.prog 20 #[.int .u8 (c.toNat : Int)] w fun e w' => e = .returned (.bool (decide (0 < letN c.toNat))) ∧ w = w' := by
  go_enter Tryd.func20, Tryd.ntmps20
  go_wp2_with (go_at_call 21; refine (letter_any _ _).mono ?_; rintro e w' ⟨rfl, rfl⟩)
  go_ret
  refine ⟨ret_bool ?_, rfl⟩
  simp
theorem d4_any (c : UInt8) (w : World) : Calls Tryd.prog 22 #[.int .u8 (c.toNat : Int)] w fun e w' => e = .returned (.bool true) ∧ w = w' := by
  go_enter Tryd.func22, Tryd.ntmps22
  go_wp2_with fail
  go_ret
  exact ⟨rfl, rfl⟩
end Go.Proofs.YtgfgbihcapkikaaDoor
