/- strings.IndexRune and IndexAny over the bytes that a field may not have: what they answer on runes of several bytes. -/
import Derived.Test.YtpkdnmjcommbmaaDoorField
import Derived.WalkMore
namespace Go.Proofs.YtpkdnmjcommbmaaDoor
open Go.RowKit Go.Shelf

theorem enc_hi (r : Nat) (h0 : 128 ≤ r) (hr : r ≤ 1114111) (h : ¬ (55296 ≤ r ∧ r ≤ 57343)) : ∃ a b : UInt8, 128 ≤ b.toNat ∧ (Utf8.encode r = ⟨#[a, b]⟩ ∨ (∃ c, Utf8.encode r = ⟨#[a, c, b]⟩) ∨ ∃ c d, Utf8.encode r = ⟨#[a, c, d, b]⟩) := by
  have hv : Utf8.valid r = true := by
    simp [Utf8.valid]
    omega
  have h1 : ¬ r < 128 := by omega
  have hb : ∀ n, 128 ≤ (UInt8.ofNat (128 + n % 64)).toNat := by
    intro n
    have : 128 + n % 64 < 256 := by omega
    simp [UInt8.toNat_ofNat']
    omega
  unfold Utf8.encode
  simp only [hv, if_true, Int.toNat_natCast, h1, if_false]
  by_cases h2 : r < 2048
  · rw [if_pos h2]
    exact ⟨_, _, hb r, .inl rfl⟩
  · rw [if_neg h2]
    by_cases h3 : r < 65536
    · rw [if_pos h3]
      exact ⟨_, _, hb r, .inr (.inl ⟨_, rfl⟩)⟩
    · rw [if_neg h3]
      exact ⟨_, _, hb r, .inr (.inr ⟨_, _, rfl⟩)⟩

set_option maxRecDepth 1000000 in
set_option maxHeartbeats 3000000 in
theorem rune_two (S R : ByteArray) (r : Nat) (w : World) (h0 : 128 ≤ r) (hr : r ≤ 1114111) (h : ¬ (55296 ≤ r ∧ r ≤ 57343)) (hn : r ≠ 65533) (hS : S.size = 3) (hR : R.size = 2) (hE : Utf8.encode r = R) (x b : UInt8) (hx : ∀ h, S[1]'h = x) (hb : ∀ h, R[1]'h = b)
    (hne : ((x.toNat : Int) != (b.toNat : Int)) = true) (T : ByteArray) (hT : S.extract 2 3 = T) (hI : ∀ W, Calls Tryd.prog 21 #[.string T, .int .u8 b.toNat] W fun e W' => e = .returned (.int .i64 (-1)) ∧ W' = W) :
    Calls Tryd.prog 41 #[.string S, .int .i32 r] w fun e w' => e = .returned (.int .i64 (-1)) ∧ Below w.heap.size w w' := by
  have hvr : Lib.validRune r = true := by simp [Lib.validRune]; omega
  have HVR := hid hvr
  have e1 : ((r : Int) == 65533) = false := by rw [beq_eq_false_iff_ne]; omega
  have HI := hid hI
  have HX := hid hx
  have HB := hid hb
  have HNE := hid hne
  have HE := hid hE
  have HT := hid hT
  have HS := hid hS
  have HR := hid hR
  clear h hn hvr hI hx hb hne hE hT hS hR
  go_enter Tryd.func41, Tryd.ntmps41
  go_wp2_with fail
  refine (Tryd.utf8_ValidRune r w).mono ?_
  rw [HVR.out]
  rintro e w' ⟨rfl, rfl⟩
  go_wp2_with fail
  go_step3
  have hE := HE.out
  have hR := HR.out
  go_wp2_with fail
  go_loop [9] (fun v => v = .int .i64 1) (fun _ => 1)
  case atStart => rfl
  case round =>
    subst hrel
    clear h0 hr e1 hE
    have hS := HS.out
    go_wp2_with fail
    go_step3
    go_wp2_with fail
    have hx1 := HX.out (by omega)
    have hb1 := HB.out (by omega)
    have hne1 := HNE.out
    have hT := HT.out
    go_quiet (fail)
    go_wp2_with fail
    have hb9 : Below w'.heap.size w' (w'.drewN nq) := bdrew (Below.refl _ _) nq
    generalize w'.drewN nq = w9 at *
    go_quiet ((go_at_call 21; exact Calls.quiet_of_same (HI.out _)))
    go_wp2_with fail
    rw [Exit.noGoto_ret]
    go_wp2_with fail
    rw [Exit.noGoto_ret]
    go_wp2_with fail
    go_ret
    exact ⟨rfl, bdrew hb9 _⟩
set_option maxRecDepth 1000000 in
set_option maxHeartbeats 3000000 in
theorem rune_three (S R : ByteArray) (r : Nat) (w : World) (h0 : 128 ≤ r) (hr : r ≤ 1114111) (h : ¬ (55296 ≤ r ∧ r ≤ 57343)) (hn : r ≠ 65533) (hS : S.size = 3) (hR : R.size = 3) (hE : Utf8.encode r = R) (x b : UInt8) (hx : ∀ h, S[2]'h = x) (hb : ∀ h, R[2]'h = b)
    (hne : ((x.toNat : Int) != (b.toNat : Int)) = true) (hI : ∀ W, Calls Tryd.prog 21 #[.string ByteArray.empty, .int .u8 b.toNat] W fun e W' => e = .returned (.int .i64 (-1)) ∧ W' = W) :
    Calls Tryd.prog 41 #[.string S, .int .i32 r] w fun e w' => e = .returned (.int .i64 (-1)) ∧ Below w.heap.size w w' := by
  have hvr : Lib.validRune r = true := by simp [Lib.validRune]; omega
  have HVR := hid hvr
  have e1 : ((r : Int) == 65533) = false := by rw [beq_eq_false_iff_ne]; omega
  have HI := hid hI
  have HX := hid hx
  have HB := hid hb
  have HNE := hid hne
  have HE := hid hE
  have HS := hid hS
  have HR := hid hR
  clear h hn hvr hI hx hb hne hE hS hR
  go_enter Tryd.func41, Tryd.ntmps41
  go_wp2_with fail
  refine (Tryd.utf8_ValidRune r w).mono ?_
  rw [HVR.out]
  rintro e w' ⟨rfl, rfl⟩
  go_wp2_with fail
  go_step3
  have hE := HE.out
  have hR := HR.out
  go_wp2_with fail
  go_loop [9] (fun v => v = .int .i64 2) (fun _ => 1)
  case atStart => rfl
  case round =>
    subst hrel
    clear h0 hr e1 hE
    have hS := HS.out
    go_wp2_with fail
    go_step3
    go_wp2_with fail
    have hx1 := HX.out (by omega)
    have hb1 := HB.out (by omega)
    have hne1 := HNE.out
    go_quiet (fail)
    go_wp2_with fail
    have hb9 : Below w'.heap.size w' (w'.drewN nq) := bdrew (Below.refl _ _) nq
    generalize w'.drewN nq = w9 at *
    go_quiet ((go_at_call 21; exact Calls.quiet_of_same (HI.out _)))
    go_wp2_with fail
    rw [Exit.noGoto_ret]
    go_wp2_with fail
    rw [Exit.noGoto_ret]
    go_wp2_with fail
    go_ret
    exact ⟨rfl, bdrew hb9 _⟩
set_option maxRecDepth 1000000 in
set_option maxHeartbeats 3000000 in
theorem rune_four (S R : ByteArray) (r : Nat) (w : World) (h0 : 128 ≤ r) (hr : r ≤ 1114111) (h : ¬ (55296 ≤ r ∧ r ≤ 57343)) (hn : r ≠ 65533) (hS : S.size = 3) (hR : R.size = 4) (hE : Utf8.encode r = R) :
    Calls Tryd.prog 41 #[.string S, .int .i32 r] w fun e w' => e = .returned (.int .i64 (-1)) ∧ Below w.heap.size w w' := by
  have hvr : Lib.validRune r = true := by simp [Lib.validRune]; omega
  have HVR := hid hvr
  have e1 : ((r : Int) == 65533) = false := by rw [beq_eq_false_iff_ne]; omega
  have HE := hid hE
  have HS := hid hS
  have HR := hid hR
  clear h hn hvr hE hS hR
  go_enter Tryd.func41, Tryd.ntmps41
  go_wp2_with fail
  refine (Tryd.utf8_ValidRune r w).mono ?_
  rw [HVR.out]
  rintro e w' ⟨rfl, rfl⟩
  go_wp2_with fail
  go_step3
  have hE := HE.out
  have hR := HR.out
  go_wp2_with fail
  go_loop [9] (fun v => v = .int .i64 3) (fun _ => 1)
  case atStart => rfl
  case round =>
    subst hrel
    clear h0 hr e1 hE
    have hS := HS.out
    go_wp2_with fail
    go_ret
    exact ⟨rfl, Below.refl _ _⟩

set_option maxRecDepth 1000000 in
set_option maxHeartbeats 3000000 in
/-- The rune that stands for a broken byte is in no text of ASCII. -/
theorem rune_err (S : ByteArray) (w : World) (hs : ∀ i (h : i < S.size), (S[i]'h).toNat < 128) :
    Calls Tryd.prog 41 #[.string S, .int .i32 65533] w fun e w' => e = .returned (.int .i64 (-1)) ∧ Below w.heap.size w w' := by
  have HS := hid hs
  clear hs
  go_enter Tryd.func41, Tryd.ntmps41
  go_wp2_with fail
  go_loopg [5, 6] S.size (fun g _ _ wx => ∃ i : Nat, i + g = S.size ∧ wx = w.iter S i)
  case atStart => exact ⟨0, by omega, rfl⟩
  case round =>
    obtain ⟨i, hig, rfl⟩ := hrel
    cases gk with
    | zero =>
      obtain rfl : i = S.size := by omega
      have hnx := run_next_end (P := Tryd.prog) w S S.size
      go_wp2_with fail
      go_ret
      exact ⟨rfl, (Below.refl _ w).alloc (Nat.le_refl _) _⟩
    | succ g =>
      have hi : i < S.size := by omega
      have hx128 := HS.out i hi
      have hnx := fun ty => run_next_ascii (P := Tryd.prog) w S i ty hi hx128
      generalize hxx : (S[i]'hi) = x at *
      clear hxx
      have e2 : ((x.toNat : Int) == 65533) = false := by rw [beq_eq_false_iff_ne]; omega
      go_wp2_with fail
      go_roundg g
      case measure => omega
      case rel => exact ⟨i + 1, by omega, rfl⟩

end Go.Proofs.YtpkdnmjcommbmaaDoor
