/- place.Print and the reference's: a cell as text. -/
import Derived.Test.YtgfgbihcapkikaaDoorLetters
import Derived.Test.YtgfgbihcapkikaaDoorShelf
namespace Go.Proofs.YtgfgbihcapkikaaDoor
open Go.RowKit

theorem dec_len (n : Nat) (h : n ≤ 1048576) : (Lib.decDigits n).length ≤ 7 := by
  have a : ∀ k n : Nat, n < 10 ^ (k + 1) → (Lib.decDigits n).length ≤ k + 1 := by
    intro k
    induction k with
    | zero => intro n hn; rw [Lib.decDigits_one (by omega)]; simp
    | succ k ih =>
      intro n hn
      rw [Lib.decDigits]
      split
      · simp
      · have := ih (n / 10) (by rw [Nat.div_lt_iff_lt_mul (by omega)]; rw [Nat.pow_succ] at hn; exact hn)
        rw [List.length_append, List.length_singleton]; omega
  exact a 6 n (by omega)
theorem digit_one (x : Int) (m : Nat) (h : x = 48 + (m : Int)) : strOfNums [x] = bas [UInt8.ofNat (48 + m)] := by
  apply strOf; subst h; simp only [List.map]; congr 2
set_option maxHeartbeats 1000000 in
theorem digits_any (k : Nat) : ∀ (n : Nat) (w : World), n ≤ k → n ≤ 1048576 →
    Calls Tryd.prog 16 #[.int .i64 n] w fun e w' => e = .returned (.string (bas (Lib.decDigits n))) ∧ Below w.heap.size w w' := by
  induction k with
  | zero =>
    intro n w h _
    have kc := fun w x t g hg => conv0 w x t g hg
    obtain rfl : n = 0 := by omega
    go_enter Tryd.func16, Tryd.ntmps16
    go_wp2_with fail
    go_ret
    refine ⟨ret_val ?_, (Below.refl _ _).alloc (Nat.le_refl _) _⟩
    rw [Lib.decDigits_one (by omega), strOf _ _ rfl]
    rfl
  | succ k ih =>
    intro n w h hb
    have kc := fun w x t g hg => conv0 w x t g hg
    by_cases hn : n < 10
    · go_enter Tryd.func16, Tryd.ntmps16
      go_wp2_with fail
      go_ret
      refine ⟨ret_val ?_, (Below.refl _ _).alloc (Nat.le_refl _) _⟩
      rw [Lib.decDigits_one hn, digit_one _ n (by omega)]
      rfl
    · have hl := dec_len (n / 10) (by omega)
      have hz : (bas (Lib.decDigits (n / 10))).size ≤ 7 := by rw [bas_size]; exact hl
      clear hl
      have hs1 : ∀ x : Int, (strOfNums [x]).size = 1 := fun _ => rfl
      go_enter Tryd.func16, Tryd.ntmps16
      go_wp2_with (go_at_call 16; refine (ih (n / 10) _ (by omega) (by omega)).mono ?_; rintro e w' ⟨rfl, hb1⟩)
      go_ret
      refine ⟨ret_val ?_, ((Below.refl _ _).alloc (Nat.le_refl _) _).trans (hb1.mono (by simp))⟩
      rw [digit_one _ (n % 10) (by omega), bas_app]
      conv => rhs; rw [Lib.decDigits, dif_neg hn]
      rfl
/-- What Print writes of a cell that is one. -/
def printL (r c : Nat) (fr fc : Bool) : List UInt8 := (if fc then [36] else []) ++ ltr c ++ (if fr then [36] else []) ++ Lib.decDigits r
def PrPost (r c : Int) (fr fc : Bool) (e : Ending) : Prop :=
  e = if isB r c then .returned (.tuple #[.string (bas (printL r.toNat c.toNat fr fc)), .int .i64 0]) else .returned (.tuple #[.string ⟨#[]⟩, .int .i64 2])
theorem below_grow {w : World} {k : Nat} {os : Array Obj} : Below w.heap.size w (Sort.grow (w.drewN k) os) := by
  refine ⟨rfl, rfl, rfl, by simp [Sort.grow, World.drewN], fun j hj => ?_⟩
  simp [Sort.grow, World.drewN, Array.getElem?_append, hj]
theorem bthru {W w1 : World} (hb : Below W.heap.size W w1) : (∀ b o, b < W.heap.size → w1.cell? ⟨b, o, none⟩ = W.cell? ⟨b, o, none⟩) ∧ (∀ b o, b < W.heap.size → w1.frozen? ⟨b, o, none⟩ = W.frozen? ⟨b, o, none⟩) :=
  ⟨fun b o h => hb.cell (p := ⟨b, o, none⟩) h, fun b o h => hb.frozen (p := ⟨b, o, none⟩) h⟩
set_option maxHeartbeats 1000000 in
theorem print_no (r c : Int) (fr fc : Bool) (w : World) (h : isB r c = false) :
    Calls Tryd.prog 5 #[.agg #[.int .i64 r, .int .i64 c, .bool fr, .bool fc]] w fun e w' => PrPost r c fr fc e ∧ Below w.heap.size w w' := by
  have H := hid h
  go_enter Tryd.func5, Tryd.ntmps5
  go_wp2_with fail
  refine (is_any _ _ _).mono ?_; rintro e w' ⟨rfl, hb1⟩
  rw [H.out]
  go_wp2_with fail
  go_ret2
  refine ⟨?_, ((Below.refl _ _).alloc (Nat.le_refl _) _).trans (hb1.mono (by simp))⟩
  unfold PrPost
  rw [H.out]
  rfl
theorem tab_below {w w' : World} (h : Lib.TabIs Tryd.prog w "internal/strconv.uint64pow10" .u64 Lib.pow10Tab) (hb : Below w.heap.size w w') : Lib.TabIs Tryd.prog w' "internal/strconv.uint64pow10" .u64 Lib.pow10Tab := by
  unfold Lib.TabIs World.var? at h ⊢
  cases hg : Tryd.prog.globalNamed "internal/strconv.uint64pow10" with
  | none => rw [hg] at h; simp at h
  | some g =>
    rw [hg] at h
    simp only [Option.bind_some] at h ⊢
    rcases Nat.lt_or_ge g w.heap.size with hl | hl
    · rw [hb.block g hl]; exact h
    · rw [Array.getElem?_eq_none hl] at h; simp at h
abbrev Tab (w : World) : Prop := Lib.TabIs Tryd.prog w "internal/strconv.uint64pow10" .u64 Lib.pow10Tab
theorem itoa_any (n : Nat) (w : World) (hn : n ≤ 1048576) (ht : Hid (Tab w)) : Calls Tryd.prog 13 #[.int .i64 n] w fun e w' => e = .returned (.string (bas (Lib.decDigits n))) ∧ Below w.heap.size w w' := by
  refine (Tryd.strconv_Itoa n (by omega) (by omega) w ht.out).mono ?_
  rintro e w' ⟨rfl, k, os, rfl⟩
  rw [Lib.itoa_nonneg]
  exact ⟨rfl, below_grow⟩
theorem ltr_len (c : Nat) : (ltr c).length ≤ 3 := by unfold ltr; (repeat' split) <;> simp
theorem let_in {c : Nat} {e : Ending} (h1 : 1 ≤ c) (h2 : c ≤ 16384) (h : LetPost c e) : e = .returned (.tuple #[.string (bas (ltr c)), .int .i64 0]) := by
  unfold LetPost lettersL at h
  rw [if_neg (by omega)] at h
  exact h
theorem letters_in (c : Nat) (w : World) (h1 : 1 ≤ c) (h2 : c ≤ 16384) : Calls Tryd.prog 10 #[.int .i64 c] w fun e w' => e = .returned (.tuple #[.string (bas (ltr c)), .int .i64 0]) ∧ Below w.heap.size w w' :=
  (letters_any c w).mono fun _ _ h => ⟨let_in h1 h2 h.1, h.2⟩
theorem refLetters_in (c : Nat) (w : World) (h1 : 1 ≤ c) (h2 : c ≤ 16384) : Calls Tryd.prog 15 #[.int .i64 c] w fun e w' => e = .returned (.tuple #[.string (bas (ltr c)), .int .i64 0]) ∧ Below w.heap.size w w' :=
  (refLetters_any c w).mono fun _ _ h => ⟨let_in h1 h2 h.1, h.2⟩
theorem prPost_mk {r c : Nat} {fr fc : Bool} {s : ByteArray} (h : isB r c = true) (hs : s = bas (printL r c fr fc)) : PrPost r c fr fc (.returned (.tuple #[.string s, .int .i64 0])) := by
  unfold PrPost; rw [h, hs]; rfl
theorem b36 : (⟨#[36]⟩ : ByteArray) = bas [36] := rfl
set_option maxHeartbeats 4000000 in
theorem print_yes (r c : Nat) (fr fc : Bool) (w : World) (h : isB r c = true) (ht : Tab w) :
    Calls Tryd.prog 5 #[.agg #[.int .i64 r, .int .i64 c, .bool fr, .bool fc]] w fun e w' => PrPost r c fr fc e ∧ Below w.heap.size w w' := by
  have H := hid h
  have HT := hid ht
  have hr : r ≤ 1048576 ∧ (1 ≤ c ∧ c ≤ 16384) := by unfold isB at h; simp at h; omega
  clear h ht
  obtain ⟨hr, hc1, hc2⟩ := hr
  have hz1 : (bas (ltr c)).size ≤ 3 := by rw [bas_size]; exact ltr_len c
  have hz2 : (bas (Lib.decDigits r)).size ≤ 7 := by rw [bas_size]; exact dec_len r hr
  cases fr <;> cases fc
  all_goals
    go_enter Tryd.func5, Tryd.ntmps5
    go_wp2_with fail
    refine (is_any _ _ _).mono ?_; rintro e w1 ⟨rfl, hb1⟩
    rw [H.out]
    obtain ⟨hc, hf⟩ := bthru hb1
    have hs1 : w.heap.size < w1.heap.size := by have := hb1.size; simp at this; omega
    go_wp2_with fail
    refine (letters_in _ _ hc1 hc2).mono ?_; rintro e w2 ⟨rfl, hb2⟩
    obtain ⟨hc', hf'⟩ := bthru hb2
    have hs2 : w.heap.size < w2.heap.size := by have := hb2.size; omega
    have hB : Below w.heap.size w w2 := (((Below.refl _ _).alloc (Nat.le_refl _) _).trans (hb1.mono (by simp))).trans (hb2.mono (by omega))
    have HT2 : Hid (Tab w2) := hid (tab_below HT.out hB)
    go_wp2_with fail
    refine (itoa_any _ _ hr HT2).mono ?_; rintro e w3 ⟨rfl, hb3⟩
    go_wp2_with fail
    go_ret2
    refine ⟨prPost_mk H.out ?_, hB.trans (hb3.mono (by omega))⟩
    simp only [b36, bas_app]
    (try congr 1) <;> simp [printL]
theorem print_any (r c : Int) (fr fc : Bool) (w : World) (ht : Tab w) :
    Calls Tryd.prog 5 #[.agg #[.int .i64 r, .int .i64 c, .bool fr, .bool fc]] w fun e w' => PrPost r c fr fc e ∧ Below w.heap.size w w' := by
  cases h : isB r c with
  | false => exact print_no r c fr fc w h
  | true =>
    have h' := h
    unfold isB at h'
    simp at h'
    obtain ⟨n, rfl⟩ : ∃ n : Nat, r = (n : Int) := ⟨r.toNat, by omega⟩
    obtain ⟨m, rfl⟩ : ∃ n : Nat, c = (n : Int) := ⟨c.toNat, by omega⟩
    exact print_yes n m fr fc w h ht
set_option maxHeartbeats 1000000 in
theorem refPrint_no (r c : Int) (fr fc : Bool) (w : World) (h : isB r c = false) :
    Calls Tryd.prog 6 #[.agg #[.int .i64 r, .int .i64 c, .bool fr, .bool fc]] w fun e w' => PrPost r c fr fc e ∧ Below w.heap.size w w' := by
  have H := hid h
  go_enter Tryd.func6, Tryd.ntmps6
  go_wp2_with fail
  refine (refPlace_any _ _ _).mono ?_; rintro e w' ⟨rfl, hb1⟩
  rw [H.out]
  go_wp2_with fail
  go_ret2
  refine ⟨?_, ((Below.refl _ _).alloc (Nat.le_refl _) _).trans (hb1.mono (by simp))⟩
  unfold PrPost
  rw [H.out]
  rfl
set_option maxHeartbeats 4000000 in
theorem refPrint_yes (r c : Nat) (fr fc : Bool) (w : World) (h : isB r c = true) (ht : Tab w) :
    Calls Tryd.prog 6 #[.agg #[.int .i64 r, .int .i64 c, .bool fr, .bool fc]] w fun e w' => PrPost r c fr fc e ∧ Below w.heap.size w w' := by
  have H := hid h
  have HT := hid ht
  have hr : r ≤ 1048576 ∧ (1 ≤ c ∧ c ≤ 16384) := by unfold isB at h; simp at h; omega
  clear h ht
  obtain ⟨hr, hc1, hc2⟩ := hr
  have hz1 : (bas (ltr c)).size ≤ 3 := by rw [bas_size]; exact ltr_len c
  have hz2 : (bas (Lib.decDigits r)).size ≤ 7 := by rw [bas_size]; exact dec_len r hr
  cases fr <;> cases fc
  all_goals
    go_enter Tryd.func6, Tryd.ntmps6
    go_wp2_with fail
    refine (refPlace_any _ _ _).mono ?_; rintro e w1 ⟨rfl, hb1⟩
    rw [H.out]
    obtain ⟨hc, hf⟩ := bthru hb1
    have hs1 : w.heap.size < w1.heap.size := by have := hb1.size; simp at this; omega
    go_wp2_with fail
    refine (refLetters_in _ _ hc1 hc2).mono ?_; rintro e w2 ⟨rfl, hb2⟩
    obtain ⟨hc', hf'⟩ := bthru hb2
    have hs2 : w.heap.size < w2.heap.size := by have := hb2.size; omega
    have hB : Below w.heap.size w w2 := (((Below.refl _ _).alloc (Nat.le_refl _) _).trans (hb1.mono (by simp))).trans (hb2.mono (by omega))
    have HT2 : Hid (Tab w2) := hid (tab_below HT.out hB)
    go_wp2_with fail
    refine (digits_any _ _ _ (Nat.le_refl _) hr).mono ?_; rintro e w3 ⟨rfl, hb3⟩
    go_wp2_with fail
    go_ret2
    refine ⟨prPost_mk H.out ?_, hB.trans (hb3.mono (by omega))⟩
    simp only [b36, bas_app]
    (try congr 1) <;> simp [printL]
theorem refPrint_any (r c : Int) (fr fc : Bool) (w : World) (ht : Tab w) :
    Calls Tryd.prog 6 #[.agg #[.int .i64 r, .int .i64 c, .bool fr, .bool fc]] w fun e w' => PrPost r c fr fc e ∧ Below w.heap.size w w' := by
  cases h : isB r c with
  | false => exact refPrint_no r c fr fc w h
  | true =>
    have h' := h
    unfold isB at h'
    simp at h'
    obtain ⟨n, rfl⟩ : ∃ n : Nat, r = (n : Int) := ⟨r.toNat, by omega⟩
    obtain ⟨m, rfl⟩ : ∃ n : Nat, c = (n : Int) := ⟨c.toNat, by omega⟩
    exact refPrint_yes n m fr fc w h ht
end Go.Proofs.YtgfgbihcapkikaaDoor
