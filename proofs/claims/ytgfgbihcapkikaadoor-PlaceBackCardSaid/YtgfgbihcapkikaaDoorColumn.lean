/- place.Column and the reference's: the column of letters. -/
import Derived.Test.YtgfgbihcapkikaaDoorSmall
namespace Go.Proofs.YtgfgbihcapkikaaDoor
open Go.RowKit

def colN (l : List UInt8) : Nat := l.foldl (fun n c => 26 * n + letN c.toNat) 0
def colL (l : List UInt8) : Nat × Nat :=
  if l.length < 1 ∨ 3 < l.length then (0, 5) else if (l.any fun c => letN c.toNat == 0) = true then (0, 5) else if 16384 < colN l then (0, 11) else (colN l, 0)
theorem colN_snoc (l : List UInt8) (c : UInt8) : colN (l ++ [c]) = 26 * colN l + letN c.toNat := by simp [colN]
theorem colN_le (l : List UInt8) (h : l.length ≤ 3) : colN l ≤ 18278 := by
  have a := fun c : UInt8 => letN_le c.toNat
  match l, h with
  | [], _ => simp [colN]
  | [x], _ => have := a x; simp only [colN, List.foldl]; omega
  | [x, y], _ => have := a x; have := a y; simp only [colN, List.foldl]; omega
  | [x, y, z], _ => have := a x; have := a y; have := a z; simp only [colN, List.foldl]; omega
theorem take_snoc (s : ByteArray) (k : Nat) (h : k < s.size) : s.data.toList.take (k + 1) = s.data.toList.take k ++ [s[k]] := by
  rw [List.take_succ_eq_append_getElem (by simpa using h)]; rfl
theorem colL_short (l : List UInt8) (h : l.length < 1 ∨ 3 < l.length) : colL l = (0, 5) := by unfold colL; rw [if_pos h]
theorem colL_bad (s : ByteArray) (k : Nat) (h0 : ¬ s.size < 1) (h3 : s.size ≤ 3) (hk : k < s.size) (hb : letN s[k].toNat = 0) : colL s.data.toList = (0, 5) := by
  have hl : s.data.toList.length = s.size := (size_list s).symm
  unfold colL
  rw [if_neg (by omega), if_pos]
  rw [List.any_eq_true]
  exact ⟨s[k], by show s.data[k] ∈ _; simp, by simp [hb]⟩
theorem colL_end (s : ByteArray) (h0 : ¬ s.size < 1) (h3 : s.size ≤ 3) (hall : ∀ c ∈ s.data.toList.take s.size, letN c.toNat ≠ 0) : colL s.data.toList = if 16384 < colN (s.data.toList.take s.size) then (0, 11) else (colN (s.data.toList.take s.size), 0) := by
  have hl : s.data.toList.length = s.size := (size_list s).symm
  have ht : s.data.toList.take s.size = s.data.toList := List.take_of_length_le (by omega)
  rw [ht] at hall ⊢
  unfold colL
  rw [if_neg (by omega), if_neg]
  rw [List.any_eq_true]
  rintro ⟨c, hc, h⟩
  exact hall c hc (by simpa using h)
theorem ret2 {a b : Value} {x y : Value} (h1 : a = x) (h2 : b = y) : Ending.returned (.tuple #[a, b]) = .returned (.tuple #[x, y]) := by rw [h1, h2]
theorem int_eq {k : IntKind} {a b : Int} (h : a = b) : Value.int k a = .int k b := by rw [h]
def ColPost (s : ByteArray) (e : Ending) : Prop := e = .returned (.tuple #[.int .i64 ((colL s.data.toList).1 : Int), .int .i64 ((colL s.data.toList).2 : Int)])
theorem colPost_mk {s : ByteArray} {a b : Int} {n m : Nat} (h : colL s.data.toList = (n, m)) (ha : a = n) (hb : b = m) : ColPost s (.returned (.tuple #[.int .i64 a, .int .i64 b])) := by
  unfold ColPost; rw [h, ha, hb]
def Good (l : List UInt8) : Prop := ∀ c ∈ l, letN c.toNat ≠ 0
theorem good_snoc {l : List UInt8} {c : UInt8} (h : Good l) (hc : letN c.toNat ≠ 0) : Good (l ++ [c]) := by
  intro x hx
  rcases List.mem_append.1 hx with h1 | h1
  · exact h x h1
  · simp at h1; subst h1; exact hc

set_option maxHeartbeats 1000000 in
theorem column_any (s : ByteArray) (w : World) (hs : s.size ≤ maxLen) : Calls Tryd.prog 11 #[.string s] w fun e w' => ColPost s e ∧ w = w' := by
  unfold maxLen at hs
  have hl : s.data.toList.length = s.size := (size_list s).symm
  have HL := hid hl
  clear hl
  by_cases hsh : s.size < 1 ∨ 3 < s.size
  · have HC := hid (colL_short s.data.toList (by rw [HL.out]; exact hsh))
    rcases hsh with hsh | hsh
    all_goals
      go_enter Tryd.func11, Tryd.ntmps11
      go_wp2_with fail
      go_ret2
      exact ⟨colPost_mk HC.out rfl rfl, rfl⟩
  · have h0 : ¬ s.size < 1 := by omega
    have h3 : s.size ≤ 3 := by omega
    clear hsh
    go_enter Tryd.func11, Tryd.ntmps11
    go_wp2_with fail
    go_loop [4, 17] (fun n i => ∃ k : Nat, k ≤ s.size ∧ i = .int .i64 k ∧ n = .int .i64 (colN (s.data.toList.take k)) ∧ Hid (Good (s.data.toList.take k))) (fun _ i => s.size - (intOf i).toNat)
    case atStart => exact ⟨0, Nat.zero_le _, rfl, rfl, hid (by simp [Good])⟩
    case round =>
      obtain ⟨k, hk, rfl, rfl, hg⟩ := hrel
      have hcl := colN_le (s.data.toList.take k) (by rw [List.length_take]; omega)
      by_cases hlt : k < s.size
      · have hll := letN_le s[k].toNat
        have HS := hid (take_snoc s k hlt)
        by_cases hz : letN s[k].toNat = 0
        · have HB := hid (colL_bad s k h0 h3 hlt hz)
          go_wp2_with (go_at_call 21; refine (letter_any _ _).mono ?_; rintro e w' ⟨rfl, rfl⟩)
          go_ret2
          exact ⟨colPost_mk HB.out rfl rfl, rfl⟩
        · go_wp2_with (go_at_call 21; refine (letter_any _ _).mono ?_; rintro e w' ⟨rfl, rfl⟩)
          go_round
          case rel => exact ⟨k + 1, by omega, by go_num, by rw [HS.out, colN_snoc]; go_num, hid (by rw [HS.out]; exact good_snoc hg.out hz)⟩
          case measure => simp [intOf]; omega
      · obtain rfl : k = s.size := by omega
        have HE := hid (colL_end s h0 h3 hg.out)
        by_cases hbig : 16384 < colN (s.data.toList.take s.size)
        · go_wp2_with fail
          go_ret2
          exact ⟨colPost_mk (by rw [HE.out, if_pos hbig]) rfl rfl, rfl⟩
        · go_wp2_with fail
          go_ret2
          exact ⟨colPost_mk (by rw [HE.out, if_neg hbig]) rfl rfl, rfl⟩
set_option maxHeartbeats 1000000 in
theorem refColumn_any (s : ByteArray) (w : World) (hs : s.size ≤ maxLen) : Calls Tryd.prog 26 #[.string s] w fun e w' => ColPost s e ∧ w = w' := by
  unfold maxLen at hs
  have hl : s.data.toList.length = s.size := (size_list s).symm
  have HL := hid hl
  clear hl
  by_cases hsh : s.size < 1 ∨ 3 < s.size
  · have HC := hid (colL_short s.data.toList (by rw [HL.out]; exact hsh))
    rcases hsh with hsh | hsh
    · have hz : ((s.size : Int) == 0) = true := by rw [beq_iff_eq]; omega
      go_enter Tryd.func26, Tryd.ntmps26
      go_wp2_with fail
      go_ret2
      exact ⟨colPost_mk HC.out rfl rfl, rfl⟩
    · have hz : ((s.size : Int) == 0) = false := by rw [beq_eq_false_iff_ne]; omega
      go_enter Tryd.func26, Tryd.ntmps26
      go_wp2_with fail
      go_ret2
      exact ⟨colPost_mk HC.out rfl rfl, rfl⟩
  · have h0 : ¬ s.size < 1 := by omega
    have h3 : s.size ≤ 3 := by omega
    have hz0 : ((s.size : Int) == 0) = false := by rw [beq_eq_false_iff_ne]; omega
    clear hsh
    go_enter Tryd.func26, Tryd.ntmps26
    go_wp2_with fail
    go_loop [4, 5] (fun n i => ∃ k : Nat, k ≤ s.size ∧ i = .int .i64 k ∧ n = .int .i64 (colN (s.data.toList.take k)) ∧ Hid (Good (s.data.toList.take k))) (fun _ i => s.size - (intOf i).toNat)
    case atStart => exact ⟨0, Nat.zero_le _, rfl, rfl, hid (by simp [Good])⟩
    case round =>
      obtain ⟨k, hk, rfl, rfl, hg⟩ := hrel
      have hcl := colN_le (s.data.toList.take k) (by rw [List.length_take]; omega)
      by_cases hlt : k < s.size
      · have hll := letN_le s[k].toNat
        have HS := hid (take_snoc s k hlt)
        by_cases hz : letN s[k].toNat = 0
        · have HB := hid (colL_bad s k h0 h3 hlt hz)
          go_wp2_with (go_at_call 25; refine (refLetter_any _ _).mono ?_; rintro e w' ⟨rfl, rfl⟩)
          go_ret2
          exact ⟨colPost_mk HB.out rfl rfl, rfl⟩
        · go_wp2_with (go_at_call 25; refine (refLetter_any _ _).mono ?_; rintro e w' ⟨rfl, rfl⟩)
          go_round
          case rel => exact ⟨k + 1, by omega, by go_num, by rw [HS.out, colN_snoc]; go_num, hid (by rw [HS.out]; exact good_snoc hg.out hz)⟩
          case measure => simp [intOf]; omega
      · obtain rfl : k = s.size := by omega
        have HE := hid (colL_end s h0 h3 hg.out)
        by_cases hbig : 16384 < colN (s.data.toList.take s.size)
        · go_wp2_with fail
          go_ret2
          exact ⟨colPost_mk (by rw [HE.out, if_pos hbig]) rfl rfl, rfl⟩
        · go_wp2_with fail
          go_ret2
          exact ⟨colPost_mk (by rw [HE.out, if_neg hbig]) rfl rfl, rfl⟩
end Go.Proofs.YtgfgbihcapkikaaDoor
