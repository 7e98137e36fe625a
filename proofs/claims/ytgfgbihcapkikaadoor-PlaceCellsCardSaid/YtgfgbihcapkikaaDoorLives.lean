/- The examples: lives answers true. -/
import Derived.Test.YtgfgbihcapkikaaDoorRefParse
namespace Go.Proofs.YtgfgbihcapkikaaDoor
open Go.RowKit

set_option maxHeartbeats 1000000 in
theorem of_ex (w : World) : Calls Tryd.prog 27 #[.agg #[.int .i64 7, .int .i64 2], .agg #[.int .i64 2, .int .i64 3]] w fun e w' => e = .returned (.tuple #[.agg #[.int .i64 2, .int .i64 2, .int .i64 7, .int .i64 3], .int .i64 0]) ∧ Below w.heap.size w w' := by
  have b1 : isB 7 2 = true := by decide
  have b2 : isB 2 3 = true := by decide
  have H1 := hid b1
  have H2 := hid b2
  clear b1 b2
  go_enter Tryd.func27, Tryd.ntmps27
  go_wp2_with fail
  refine (is_any _ _ _).mono ?_; rintro e w1 ⟨rfl, hb1⟩
  rw [H1.out]
  obtain ⟨hc, hf⟩ := bthru hb1
  have hs1 : w.heap.size + 2 < w1.heap.size := by have := hb1.size; simp at this; omega
  have hB1 : Hid (Below w.heap.size w w1) := hid (((((Below.refl _ _).alloc (Nat.le_refl _) _).alloc (by simp) _).alloc (by simp; omega) _).trans (hb1.mono (by simp; omega)))
  go_wp2_with fail
  refine (is_any _ _ _).mono ?_; rintro e w2 ⟨rfl, hb2⟩
  rw [H2.out]
  obtain ⟨hc', hf'⟩ := bthru hb2
  have hs2 : w.heap.size + 2 < w2.heap.size := by have := hb2.size; omega
  have hB : Hid (Below w.heap.size w w2) := hid (hB1.out.trans (hb2.mono (by omega)))
  have p0 : w.heap.size < w1.heap.size := by omega
  have p1 : w.heap.size + 1 < w1.heap.size := by omega
  have p2 : w.heap.size + 1 + 1 < w1.heap.size := by omega
  have q0 : w.heap.size < w2.heap.size := by omega
  have q1 : w.heap.size + 1 < w2.heap.size := by omega
  have q2 : w.heap.size + 1 + 1 < w2.heap.size := by omega
  go_wp2_with fail
  have k : ∀ i, w2.cell? ⟨w.heap.size + 1 + 1, i, none⟩ = #[Value.int .i64 0, Value.int .i64 0, Value.int .i64 0, Value.int .i64 0][i]? := fun i => by
    rw [hc' _ _ p2, hc _ _ (by simp), World.cell?_alloc_at _ _ _ _ (by simp)]
  have K := cells_set4 (w := w2) (g := w.heap.size + 1 + 1) (by rw [k]; rfl) (by rw [k]; rfl) (by rw [k]; rfl) (by rw [k]; rfl)
  exact bodyPost_ret (v := .tuple #[.agg #[.int .i64 2, .int .i64 2, .int .i64 7, .int .i64 3], .int .i64 0]) (by simp [results, Tryd.results27, go_sem, K.1, K.2.1, K.2.2.1, K.2.2.2]; decide) rfl ⟨rfl, (((hB.out.setCell (by simp; omega) _).setCell (by simp; omega) _).setCell (by simp; omega) _).setCell (by simp; omega) _⟩
theorem letters_ex (w : World) : Calls Tryd.prog 10 #[.int .i64 16384] w fun e w' => e = .returned (.tuple #[.string ⟨#[88, 70, 68]⟩, .int .i64 0]) ∧ Below w.heap.size w w' := letters_in 16384 w (by omega) (by omega)
theorem col_ex1 (w : World) : Calls Tryd.prog 11 #[.string ⟨#[120, 102, 100]⟩] w fun e w' => e = .returned (.tuple #[.int .i64 16384, .int .i64 0]) ∧ w = w' := column_any (bas [120, 102, 100]) w (by unfold maxLen; rw [bas_size]; decide)
theorem col_ex2 (w : World) : Calls Tryd.prog 11 #[.string ⟨#[88, 70, 69]⟩] w fun e w' => e = .returned (.tuple #[.int .i64 0, .int .i64 11]) ∧ w = w' := column_any (bas [88, 70, 69]) w (by unfold maxLen; rw [bas_size]; decide)
theorem parse_ex1 (w : World) : Calls Tryd.prog 7 #[.string ⟨#[36, 98, 36, 55]⟩] w fun e w' => e = .returned (.tuple #[.agg #[.int .i64 7, .int .i64 2, .bool true, .bool true], .int .i64 0]) ∧ Below w.heap.size w w' := by
  have h : parseL [36, 98, 36, 55] = ⟨7, 2, true, true, 0⟩ := by decide +kernel
  have h2 := parse_any [36, 98, 36, 55] w (by unfold maxLen; decide)
  rw [h] at h2
  exact h2
theorem parse_ex2 (w : World) : Calls Tryd.prog 7 #[.string ⟨#[66, 48, 55]⟩] w fun e w' => e = .returned (.tuple #[.agg #[.int .i64 0, .int .i64 0, .bool false, .bool false], .int .i64 5]) ∧ Below w.heap.size w w' := by
  have h : parseL [66, 48, 55] = ⟨0, 0, false, false, 5⟩ := by decide +kernel
  have h2 := parse_any [66, 48, 55] w (by unfold maxLen; decide)
  rw [h] at h2
  exact h2
theorem print_ex (w : World) (ht : Tab w) : Calls Tryd.prog 5 #[.agg #[.int .i64 7, .int .i64 2, .bool true, .bool true]] w fun e w' => e = .returned (.tuple #[.string ⟨#[36, 66, 36, 55]⟩, .int .i64 0]) ∧ Below w.heap.size w w' := by
  refine (print_any 7 2 true true w ht).mono ?_
  rintro e w' ⟨he, hb⟩
  refine ⟨?_, hb⟩
  unfold PrPost at he
  rw [if_pos (by decide)] at he
  rw [he]
  have : printL (7 : Int).toNat (2 : Int).toNat true true = [36, 66, 36, 55] := by
    unfold printL
    rw [Lib.decDigits_one (by decide)]
    rfl
  rw [this]
  rfl
set_option maxHeartbeats 4000000 in
theorem lives_yes (w : World) (ht : Tab w) : Calls Tryd.prog 9 #[] w fun e w' => e = .returned (.bool true) ∧ Below w.heap.size w w' := by
  have HT := hid ht
  clear ht
  go_enter Tryd.func9, Tryd.ntmps9
  go_wp2_with fail
  refine (letters_ex _).mono ?_; rintro e w1 ⟨rfl, hb1⟩
  go_wp2_with fail
  refine (col_ex1 _).mono ?_; rintro e w1 ⟨rfl, rfl⟩
  go_wp2_with fail
  refine (col_ex2 _).mono ?_; rintro e w1 ⟨rfl, rfl⟩
  go_wp2_with fail
  refine (parse_ex1 _).mono ?_; rintro e w2 ⟨rfl, hb2⟩
  have HB2 : Hid (Below w.heap.size w w2) := hid (hb1.trans (hb2.mono hb1.size))
  clear hb1 hb2
  go_wp2_with fail
  refine (parse_ex2 _).mono ?_; rintro e w3 ⟨rfl, hb3⟩
  have hs3 : w2.heap.size < w3.heap.size := by have := hb3.size; simp at this; omega
  have HB3 : Hid (Below w.heap.size w w3) := hid (HB2.out.trans (((Below.refl _ w2).alloc HB2.out.size _).trans (hb3.mono (by have := HB2.out.size; simp; omega))))
  obtain ⟨hc3, hf3⟩ := bthru hb3
  go_wp2_with fail
  refine (of_ex _).mono ?_; rintro e w4 ⟨rfl, hb4⟩
  have hs4 : w3.heap.size < w4.heap.size := by have := hb4.size; simp at this; omega
  have r4 : w2.heap.size < w4.heap.size := by omega
  have HB4 : Hid (Below w.heap.size w w4) := hid (HB3.out.trans (((Below.refl _ w3).alloc HB3.out.size _).trans (hb4.mono (by have := HB3.out.size; simp; omega))))
  obtain ⟨hc4, hf4⟩ := bthru hb4
  go_wp2_with fail
  refine (print_ex _ (tab_below HT.out (HB4.out.alloc HB4.out.size _))).mono ?_; rintro e w5 ⟨rfl, hb5⟩
  have hs5 : w4.heap.size < w5.heap.size := by have := hb5.size; simp at this; omega
  have r5 : w2.heap.size < w5.heap.size := by omega
  have r6 : w3.heap.size < w5.heap.size := by omega
  have HB5 : Hid (Below w.heap.size w w5) := hid (HB4.out.trans (((Below.refl _ w4).alloc HB4.out.size _).trans (hb5.mono (by have := HB4.out.size; simp; omega))))
  obtain ⟨hc5, hf5⟩ := bthru hb5
  go_wp2_with fail
  go_ret
  exact ⟨rfl, HB5.out⟩
end Go.Proofs.YtgfgbihcapkikaaDoor
