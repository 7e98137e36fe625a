/- csv.Wide and separator: what they answer. -/
import Derived.Test.YtpkdnmjcommbmaaDoorBase
namespace Go.Proofs.YtpkdnmjcommbmaaDoor
open Go.RowKit

set_option maxHeartbeats 400000 in
theorem sep_any (c : Int) (w : World) :
    Calls Tryd.prog 10 #[.int .u8 c] w fun e w' => e = .returned (.bool (c != 0 && c != 10 && c != 13 && c != 34)) ∧ w = w' := by
  go_enter Tryd.func10, Tryd.ntmps10
  go_wp2
  all_goals go_ret
  all_goals exact ⟨by simp [*], rfl⟩

set_option maxHeartbeats 400000 in
theorem wide1_any (B : Nat) (n m : Int) (w : World) (hc : w.cell? ⟨B, 0, none⟩ = some (.int .i64 m)) (hf : w.frozen? ⟨B, 0, none⟩ = false) :
    Calls Tryd.prog 19 #[.int .i64 n, .pointer (some ⟨B, 0, none⟩)] w fun e w' => e = .returned (.tuple #[]) ∧ w' = w.setCell ⟨B, 0, none⟩ (.int .i64 (max m n)) := by
  go_enter Tryd.func19, Tryd.ntmps19
  go_wp2
  all_goals go_end0
  · exact ⟨rfl, by rw [Int.max_eq_right (by omega)]⟩
  · exact ⟨rfl, by rw [Int.max_eq_left (by omega)]⟩

/-- How wide the widest of the first k rows is. -/
def widest (l : List (List ByteArray)) : Int := l.foldl (fun m r => max m (r.length : Int)) 0

theorem widest_snoc (l : List (List ByteArray)) (r : List ByteArray) : widest (l ++ [r]) = max (widest l) (r.length : Int) := by
  simp [widest, List.foldl_append]

set_option maxHeartbeats 400000 in
theorem wide_any (top : Nat) (v : Value) (rows : List (List ByteArray)) (w : World) (hv : RowsV top w v rows) (ht : top ≤ w.heap.size) (hn : rows.length ≤ 9223372036854775807) :
    Calls Tryd.prog 11 #[v] w fun e w' => e = .returned (.int .i64 (widest rows)) ∧ Below w.heap.size w w' := by
  have HV := hid hv
  obtain ⟨svs, hs, hl, hr⟩ := hv
  have HS := hid hs
  obtain ⟨a, cap, rfl⟩ := hs.len
  have hmf : ∀ (fn : Fn) (first cap : Array Value) (w : World), (Instr.makeFunc fn first cap).run Tryd.prog w = .ok (.func fn first cap) w := fun _ _ _ _ => rfl
  have HL := hid hl
  have HR := hid hr
  clear hr hs
  have hl1 : svs.length ≤ rows.length := by omega
  have hl2 : rows.length ≤ svs.length := by omega
  clear hl
  go_enter Tryd.func11, Tryd.ntmps11
  go_wp2
  go_loopw [10] (fun i wr => ∃ (k : Nat) (m : Int), k ≤ svs.length ∧ i = .int .i64 k ∧ m = widest (rows.take k) ∧ wr.cell? ⟨w.heap.size, 0, none⟩ = some (.int .i64 m) ∧ wr.frozen? ⟨w.heap.size, 0, none⟩ = false ∧ Below w.heap.size w wr ∧ w.heap.size < wr.heap.size) (fun i _ => svs.length - (intOf i).toNat)
  case atStart => exact ⟨0, 0, Nat.zero_le _, rfl, rfl, by simp, by simp, (Below.refl _ _).alloc (Nat.le_refl _) _, by simp⟩
  case round =>
    obtain ⟨k, m, hk, rfl, hm, hc, hf, hb, hz⟩ := hrel
    have HM := hid hm
    clear hm
    by_cases hlt : k < svs.length
    · obtain ⟨sv, hsv⟩ : ∃ sv, svs[k]? = some sv := ⟨_, getq hlt⟩
      obtain ⟨row, hrow⟩ : ∃ row, rows[k]? = some row := ⟨_, getq (by omega)⟩
      have hslen := (HR.out k sv row hsv hrow).len
      rcases HS.out with ⟨_, h0⟩ | ⟨b, off, cap', hv, hbt, hcs⟩
      · subst h0; simp at hlt
      · have hcell : wr.cell? ⟨b, off + k, none⟩ = some sv := bcell hb (by omega) (hcs k sv hsv)
        obtain ⟨a2, cap2, h2⟩ := hslen
        subst h2
        simp only [strs, List.length_map] at hcell
        simp only [Value.slice.injEq] at hv
        obtain ⟨rfl, -, rfl⟩ := hv
        have HSV := hid hsv
        have HROW := hid hrow
        clear hsv hrow hcs
        go_wp2_with fail
        refine (wide1_any _ _ m _ hc hf).mono ?_
        rintro e w' ⟨rfl, rfl⟩
        go_wp2_with fail
        go_roundw
        case rel =>
          refine ⟨k + 1, max m row.length, by omega, by go_num, ?_, cset _ hc, fset _ hf, hb.setCell (Nat.le_refl _) _, by simp; omega⟩
          rw [HM.out, List.take_succ_eq_append_getElem (by omega), widest_snoc]
          have := HROW.out
          rw [getq (by omega)] at this
          simp at this
          rw [this]
        case measure => simp [intOf]; omega
    · go_wp2
      go_ret
      refine ⟨ret_int ?_, hb⟩
      rw [HM.out, List.take_of_length_le (by omega)]
end Go.Proofs.YtpkdnmjcommbmaaDoor
