/- csv.Write where it refuses. -/
import Derived.Test.YtpkdnmjcommbmaaDoorSame
namespace Go.Proofs.YtpkdnmjcommbmaaDoor
open Go.RowKit Go.Shelf

def badSep (c : Int) : Bool := !(c != 0 && c != 10 && c != 13 && c != 34)

set_option maxHeartbeats 1000000 in
theorem read_badsep (s : ByteArray) (c : Int) (w : World) (hc : badSep c = true) :
    Calls Tryd.prog 7 #[.string s, .int .u8 c] w fun e w' => e = .returned (.tuple #[.slice none 0 0, .int .i64 0, .int .i64 2]) ∧ w = w' := by
  have HC := hid (show (c != 0 && c != 10 && c != 13 && c != 34) = false by simpa only [badSep, Bool.not_eq_true'] using hc)
  clear hc
  go_enter Tryd.func7, Tryd.ntmps7
  go_wp2_with fail
  refine (sep_any _ _).mono ?_
  rintro e w' ⟨rfl, rfl⟩
  rw [HC.out]
  go_wp2_with fail
  go_ret3
  exact ⟨rfl, rfl⟩

set_option maxHeartbeats 1000000 in
theorem write_badsep (v : Value) (c : Int) (w : World) (hc : badSep c = true) (hv : ∃ a n cap, v = .slice a n cap) :
    Calls Tryd.prog 6 #[v, .int .u8 c] w fun e w' => e = .returned (.tuple #[.string ⟨#[]⟩, .int .i64 2]) ∧ w = w' := by
  obtain ⟨a, n, cap, rfl⟩ := hv
  have HC := hid (show (c != 0 && c != 10 && c != 13 && c != 34) = false by simpa only [badSep, Bool.not_eq_true'] using hc)
  clear hc
  go_enter Tryd.func6, Tryd.ntmps6
  go_wp2_with fail
  refine (sep_any _ _).mono ?_
  rintro e w' ⟨rfl, rfl⟩
  rw [HC.out]
  go_wp2_with fail
  go_ret2
  exact ⟨rfl, rfl⟩

set_option maxHeartbeats 1000000 in
/-- A row without fields is not written: told of what the rows' cells hold alone. -/
theorem write_empty (a : Option Addr) (n cap : Nat) (c : Int) (w : World) (hc : badSep c = false) (hn : n ≤ 140737488355328)
    (hcells : Hid (∃ b off, a = some ⟨b, off, none⟩ ∧ ∀ i, i < n → ∃ a' n' cap', w.cell? ⟨b, off + i, none⟩ = some (.slice a' n' cap') ∧ n' ≤ 140737488355328)) (hz : Hid (∃ i a' cap', i < n ∧ ∃ b off, a = some ⟨b, off, none⟩ ∧ w.cell? ⟨b, off + i, none⟩ = some (.slice a' 0 cap'))) :
    Calls Tryd.prog 6 #[.slice a n cap, .int .u8 c] w fun e w' => e = .returned (.tuple #[.string ⟨#[]⟩, .int .i64 2]) ∧ w = w' := by
  have HC := hid (show (c != 0 && c != 10 && c != 13 && c != 34) = true by simpa only [badSep, Bool.not_eq_false'] using hc)
  clear hc
  obtain ⟨b, off, rfl, hcl⟩ := hcells.out
  have HCL := hid hcl
  clear hcl
  go_enter Tryd.func6, Tryd.ntmps6
  go_wp2_with fail
  refine (sep_any _ _).mono ?_
  rintro e w' ⟨rfl, rfl⟩
  rw [HC.out]
  go_wp2_with fail
  go_loop [18] (fun i => ∃ k : Nat, k < n ∧ i = .int .i64 k ∧ Hid (∃ j a' cap', k ≤ j ∧ j < n ∧ w.cell? ⟨b, off + j, none⟩ = some (.slice a' 0 cap'))) (fun i => n - (intOf i).toNat)
  case atStart =>
    obtain ⟨i, a', cap', h1, b', off', h2, h3⟩ := hz.out
    simp only [Option.some.injEq, Addr.mk.injEq] at h2
    obtain ⟨rfl, rfl, -⟩ := h2
    exact ⟨0, by omega, rfl, i, a', cap', Nat.zero_le _, h1, h3⟩
  case round =>
    obtain ⟨k, hk, rfl, HJ⟩ := hrel
    obtain ⟨a', n', cap', hcell, hn'⟩ := HCL.out k hk
    by_cases h0 : n' = 0
    · subst h0
      go_wp2_with fail
      go_ret2
      exact ⟨rfl, rfl⟩
    · have e0 : ((n' : Int) == 0) = false := by rw [beq_eq_false_iff_ne]; omega
      have hlt : k + 1 < n := by
        obtain ⟨j, a2, c2, h1, h2, h3⟩ := HJ.out
        by_cases hjk : j = k
        · subst hjk; rw [hcell] at h3; simp at h3; omega
        · omega
      have HJ2 := hid (show ∃ j a' cap', k + 1 ≤ j ∧ j < n ∧ w.cell? ⟨b, off + j, none⟩ = some (.slice a' 0 cap') by
        obtain ⟨j, a2, c2, h1, h2, h3⟩ := HJ.out
        by_cases hjk : j = k
        · subst hjk; rw [hcell] at h3; simp at h3; omega
        · exact ⟨j, a2, c2, by omega, h2, h3⟩)
      go_wp2_with fail
      go_round
      case rel => exact ⟨k + 1, hlt, by go_num, HJ2⟩
      case measure => simp [intOf]; omega
end Go.Proofs.YtpkdnmjcommbmaaDoor
