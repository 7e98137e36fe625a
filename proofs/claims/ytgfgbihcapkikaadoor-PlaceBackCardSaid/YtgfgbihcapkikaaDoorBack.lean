/- PlaceBack: the walk: of every cell and every text the law returns true. -/
import Derived.Test.YtgfgbihcapkikaaDoorLaw
namespace Go.Proofs.YtgfgbihcapkikaaDoor
open Go.RowKit

theorem print_val (r c : Nat) (fr fc : Bool) (w : World) (ht : Tab w) (h0 : 1 ≤ r) (h : r ≤ 1048576) (h1 : 1 ≤ c) (h2 : c ≤ 16384) :
    Calls Tryd.prog 5 #[.agg #[.int .i64 r, .int .i64 c, .bool fr, .bool fc]] w fun e w' => e = .returned (.tuple #[.string (bas (printL r c fr fc)), .int .i64 0]) ∧ Below w.heap.size w w' := by
  refine (print_any r c fr fc w ht).mono ?_
  rintro e w' ⟨he, hb⟩
  refine ⟨?_, hb⟩
  unfold PrPost at he
  rw [if_pos (by unfold isB; simp; omega)] at he
  exact he
theorem print_none (r c : Int) (fr fc : Bool) (w : World) (h : isB r c = false) :
    Calls Tryd.prog 5 #[.agg #[.int .i64 r, .int .i64 c, .bool fr, .bool fc]] w fun e w' => e = .returned (.tuple #[.string ⟨#[]⟩, .int .i64 2]) ∧ Below w.heap.size w w' := by
  refine (print_no r c fr fc w h).mono ?_
  rintro e w' ⟨he, hb⟩
  refine ⟨?_, hb⟩
  unfold PrPost at he
  rw [h] at he
  exact he
theorem printL_len (r c : Nat) (fr fc : Bool) (h : r ≤ 1048576) : (printL r c fr fc).length ≤ 12 := by
  have := dec_len r h
  have := ltr_len c
  unfold printL
  cases fr <;> cases fc <;> simp <;> omega
theorem parse_val (r c : Nat) (fr fc : Bool) (w : World) (h0 : 1 ≤ r) (h : r ≤ 1048576) (h1 : 1 ≤ c) (h2 : c ≤ 16384) :
    Calls Tryd.prog 7 #[.string (bas (printL r c fr fc))] w fun e w' => e = .returned (.tuple #[.agg #[.int .i64 r, .int .i64 c, .bool fr, .bool fc], .int .i64 0]) ∧ Below w.heap.size w w' := by
  have hh := parse_any (printL r c fr fc) w (by unfold maxLen; have := printL_len r c fr fc h; omega)
  rw [parse_print r c fr fc h0 h h1 h2] at hh
  exact hh
theorem col_val (c : Nat) (w : World) (h1 : 1 ≤ c) (h2 : c ≤ 16384) : Calls Tryd.prog 11 #[.string (bas (ltr c))] w fun e w' => e = .returned (.tuple #[.int .i64 c, .int .i64 0]) ∧ w = w' := by
  have hh := column_any (bas (ltr c)) w (by unfold maxLen; rw [bas_size]; have := ltr_len c; omega)
  refine hh.mono ?_
  rintro e w' ⟨he, rfl⟩
  refine ⟨?_, rfl⟩
  unfold ColPost at he
  rw [bas_list, colL_ltr c h1 h2] at he
  exact he
set_option maxHeartbeats 4000000 in
theorem back_no (r c : Int) (fr fc : Bool) (s : ByteArray) (w : World) (hs : s.size ≤ maxLen) (ht : Tab w) (hb : isB r c = false) :
    Calls Tryd.prog 4 #[.agg #[.int .i64 r, .int .i64 c, .bool fr, .bool fc], .string s] w fun e w' => e = .returned (.bool true) ∧ Below w.heap.size w w' := by
  have HT := hid ht
  have HS := hid hs
  have HN := hid hb
  clear ht hs hb
  go_enter Tryd.func4, Tryd.ntmps4
  go_wp2_with fail
  refine (print_none _ _ _ _ _ HN.out).mono ?_; rintro e w1 ⟨rfl, hb1⟩
  have HB : Hid (Below w.heap.size w w1) := hid (((Below.refl _ w).alloc (Nat.le_refl _) _).trans (hb1.mono (by simp)))
  clear hb1
  go_wp2_with fail
  refine (parse_form s _ HS.out).mono ?_; rintro e v1 ⟨rfl, hb1⟩
  have HV1 : Hid (Below w.heap.size w v1) := hid (HB.out.trans (hb1.mono HB.out.size))
  clear hb1
  generalize hx : parseL s.data.toList = X
  by_cases herr : X.err = 0
  · have hr : 1 ≤ X.row ∧ X.row ≤ 1048576 ∧ 1 ≤ X.col ∧ X.col ≤ 16384 := by rw [← hx] at herr ⊢; exact parse_right _ herr
    obtain ⟨x1, x2, x3, x4, x5⟩ := X
    simp only at herr hr
    subst herr
    obtain ⟨y1, y2, y3, y4⟩ := hr
    clear hx
    unfold PRes.val
    go_wp2_with fail
    have HT2 := tab_below HT.out (HV1.out.alloc HV1.out.size (.cells #[.int .i64 x1, .int .i64 x2, .bool x3, .bool x4] 25))
    refine (print_val x1 x2 x3 x4 _ HT2 y1 y2 y3 y4).mono ?_; rintro e v2 ⟨rfl, hb2⟩
    have s2 : v1.heap.size < v2.heap.size := by have := hb2.size; simp at this; omega
    have HV2 : Hid (Below w.heap.size w v2) := hid (HV1.out.trans (((Below.refl _ v1).alloc HV1.out.size _).trans (hb2.mono (by have := HV1.out.size; simp; omega))))
    obtain ⟨hc2, hf2⟩ := bthru hb2
    clear hb2 HT2
    go_wp2_with fail
    refine (parse_val x1 x2 x3 x4 _ y1 y2 y3 y4).mono ?_; rintro e v3 ⟨rfl, hb3⟩
    have s3 : v1.heap.size < v3.heap.size := by have := hb3.size; omega
    have HV3 : Hid (Below w.heap.size w v3) := hid (HV2.out.trans (hb3.mono HV2.out.size))
    obtain ⟨hc3, hf3⟩ := bthru hb3
    clear hb3
    go_wp2_with fail
    refine (lives_yes _ (tab_below HT.out (HV3.out.alloc HV3.out.size _))).mono ?_; rintro e v4 ⟨rfl, hb4⟩
    have HV4 : Hid (Below w.heap.size w v4) := hid (HV3.out.trans (((Below.refl _ v3).alloc HV3.out.size _).trans (hb4.mono (by have := HV3.out.size; simp; omega))))
    go_wp2_with fail
    go_ret
    exact ⟨rfl, HV4.out⟩
  · have hz : X.row = 0 ∧ X.col = 0 ∧ X.fr = false ∧ X.fc = false := by rw [← hx] at herr ⊢; exact parse_err _ herr
    obtain ⟨x1, x2, x3, x4, x5⟩ := X
    simp only at herr hz
    obtain ⟨rfl, rfl, rfl, rfl⟩ := hz
    have q1 : ((x5 : Int) == 0) = false := by rw [beq_eq_false_iff_ne]; omega
    have q2 : ((x5 : Int) != 0) = true := by simp; omega
    clear hx herr
    unfold PRes.val
    go_wp2_with fail
    refine (lives_yes _ (tab_below HT.out (HV1.out.alloc HV1.out.size _))).mono ?_; rintro e v4 ⟨rfl, hb4⟩
    have HV4 : Hid (Below w.heap.size w v4) := hid (HV1.out.trans (((Below.refl _ v1).alloc HV1.out.size _).trans (hb4.mono (by have := HV1.out.size; simp; omega))))
    go_wp2_with fail
    go_ret
    exact ⟨rfl, HV4.out⟩
set_option maxHeartbeats 8000000 in
theorem back_yes (r c : Nat) (fr fc : Bool) (s : ByteArray) (w : World) (hs : s.size ≤ maxLen) (ht : Tab w) (h0 : 1 ≤ r) (h : r ≤ 1048576) (h1 : 1 ≤ c) (h2 : c ≤ 16384) :
    Calls Tryd.prog 4 #[.agg #[.int .i64 r, .int .i64 c, .bool fr, .bool fc], .string s] w fun e w' => e = .returned (.bool true) ∧ Below w.heap.size w w' := by
  have HT := hid ht
  have HS := hid hs
  clear ht hs
  go_enter Tryd.func4, Tryd.ntmps4
  go_wp2_with fail
  have HT1 := tab_below HT.out ((Below.refl _ w).alloc (Nat.le_refl _) (.cells #[.int .i64 r, .int .i64 c, .bool fr, .bool fc] 25))
  refine (print_val r c fr fc _ HT1 h0 h h1 h2).mono ?_; rintro e w1 ⟨rfl, hb1⟩
  have s1 : w.heap.size < w1.heap.size := by have := hb1.size; simp at this; omega
  have HB1 : Hid (Below w.heap.size w w1) := hid (((Below.refl _ w).alloc (Nat.le_refl _) _).trans (hb1.mono (by simp)))
  obtain ⟨hc1, hf1⟩ := bthru hb1
  clear hb1 HT1
  go_wp2_with fail
  refine (parse_val r c fr fc _ h0 h h1 h2).mono ?_; rintro e w2 ⟨rfl, hb2⟩
  have s2 : w.heap.size < w2.heap.size := by have := hb2.size; omega
  have HB2 : Hid (Below w.heap.size w w2) := hid (HB1.out.trans (hb2.mono HB1.out.size))
  obtain ⟨hc2, hf2⟩ := bthru hb2
  clear hb2 HB1
  go_wp2_with fail
  refine (letters_in c _ h1 h2).mono ?_; rintro e w3 ⟨rfl, hb3⟩
  have s3 : w2.heap.size < w3.heap.size := by have := hb3.size; simp at this; omega
  have r3 : w.heap.size < w3.heap.size := by omega
  have HB3 : Hid (Below w.heap.size w w3) := hid (HB2.out.trans (((Below.refl _ w2).alloc HB2.out.size _).trans (hb3.mono (by have := HB2.out.size; simp; omega))))
  obtain ⟨hc3, hf3⟩ := bthru hb3
  clear hb3 HB2
  go_wp2_with fail
  refine (col_val c _ h1 h2).mono ?_; rintro e w4 ⟨rfl, rfl⟩
  go_wp2_with fail
  have HB := HB3
  refine (parse_form s _ HS.out).mono ?_; rintro e v1 ⟨rfl, hb1⟩
  have HV1 : Hid (Below w.heap.size w v1) := hid (HB.out.trans (hb1.mono HB.out.size))
  clear hb1
  generalize hx : parseL s.data.toList = X
  by_cases herr : X.err = 0
  · have hr : 1 ≤ X.row ∧ X.row ≤ 1048576 ∧ 1 ≤ X.col ∧ X.col ≤ 16384 := by rw [← hx] at herr ⊢; exact parse_right _ herr
    obtain ⟨x1, x2, x3, x4, x5⟩ := X
    simp only at herr hr
    subst herr
    obtain ⟨y1, y2, y3, y4⟩ := hr
    clear hx
    unfold PRes.val
    go_wp2_with fail
    have HT2 := tab_below HT.out (HV1.out.alloc HV1.out.size (.cells #[.int .i64 x1, .int .i64 x2, .bool x3, .bool x4] 25))
    refine (print_val x1 x2 x3 x4 _ HT2 y1 y2 y3 y4).mono ?_; rintro e v2 ⟨rfl, hb2⟩
    have s2 : v1.heap.size < v2.heap.size := by have := hb2.size; simp at this; omega
    have HV2 : Hid (Below w.heap.size w v2) := hid (HV1.out.trans (((Below.refl _ v1).alloc HV1.out.size _).trans (hb2.mono (by have := HV1.out.size; simp; omega))))
    obtain ⟨hc2, hf2⟩ := bthru hb2
    clear hb2 HT2
    go_wp2_with fail
    refine (parse_val x1 x2 x3 x4 _ y1 y2 y3 y4).mono ?_; rintro e v3 ⟨rfl, hb3⟩
    have s3 : v1.heap.size < v3.heap.size := by have := hb3.size; omega
    have HV3 : Hid (Below w.heap.size w v3) := hid (HV2.out.trans (hb3.mono HV2.out.size))
    obtain ⟨hc3, hf3⟩ := bthru hb3
    clear hb3
    go_wp2_with fail
    refine (lives_yes _ (tab_below HT.out (HV3.out.alloc HV3.out.size _))).mono ?_; rintro e v4 ⟨rfl, hb4⟩
    have HV4 : Hid (Below w.heap.size w v4) := hid (HV3.out.trans (((Below.refl _ v3).alloc HV3.out.size _).trans (hb4.mono (by have := HV3.out.size; simp; omega))))
    go_wp2_with fail
    go_ret
    exact ⟨rfl, HV4.out⟩
  · have hz : X.row = 0 ∧ X.col = 0 ∧ X.fr = false ∧ X.fc = false := by rw [← hx] at herr ⊢; exact parse_err _ herr
    obtain ⟨x1, x2, x3, x4, x5⟩ := X
    simp only at herr hz
    obtain ⟨rfl, rfl, rfl, rfl⟩ := hz
    have q1 : ((x5 : Int) == 0) = false := by rw [beq_eq_false_iff_ne]; omega
    have q2 : ((x5 : Int) != 0) = true := by simp; omega
    clear hx herr
    unfold PRes.val
    go_wp2_with fail
    refine (lives_yes _ (tab_below HT.out (HV1.out.alloc HV1.out.size _))).mono ?_; rintro e v4 ⟨rfl, hb4⟩
    have HV4 : Hid (Below w.heap.size w v4) := hid (HV1.out.trans (((Below.refl _ v1).alloc HV1.out.size _).trans (hb4.mono (by have := HV1.out.size; simp; omega))))
    go_wp2_with fail
    go_ret
    exact ⟨rfl, HV4.out⟩
theorem back_any (r c : Int) (fr fc : Bool) (s : ByteArray) (w : World) (hs : s.size ≤ maxLen) (ht : Tab w) :
    Calls Tryd.prog 4 #[.agg #[.int .i64 r, .int .i64 c, .bool fr, .bool fc], .string s] w fun e w' => e = .returned (.bool true) ∧ Below w.heap.size w w' := by
  cases h : isB r c with
  | false => exact back_no r c fr fc s w hs ht h
  | true =>
    unfold isB at h
    simp at h
    obtain ⟨n, rfl⟩ : ∃ n : Nat, r = (n : Int) := ⟨r.toNat, by omega⟩
    obtain ⟨m, rfl⟩ : ∃ n : Nat, c = (n : Int) := ⟨c.toNat, by omega⟩
    exact back_yes n m fr fc s w hs ht (by omega) (by omega) (by omega) (by omega)
end Go.Proofs.YtgfgbihcapkikaaDoor
