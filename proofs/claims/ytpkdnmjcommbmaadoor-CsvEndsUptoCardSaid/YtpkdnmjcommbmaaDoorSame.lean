/- Two equal lists of rows are the same to Same. -/
import Derived.Test.YtpkdnmjcommbmaaDoorReadr
namespace Go.Proofs.YtpkdnmjcommbmaaDoor
open Go.RowKit Go.Shelf

/-- Element i of a slice value, as the walk reads it. -/
theorem SliceV.at {top : Nat} {w : World} {v : Value} {vs : List Value} (h : SliceV top w v vs) : ∃ a cap, v = .slice a vs.length cap ∧ (0 < vs.length → ∃ b off, a = some ⟨b, off, none⟩ ∧ ∀ i x, vs[i]? = some x → w.cell? ⟨b, off + i, none⟩ = some x) := by
  rcases h with ⟨⟨_, _, rfl⟩, rfl⟩ | ⟨b, off, cap, rfl, _, hc⟩
  · exact ⟨_, _, rfl, fun h => by simp at h⟩
  · exact ⟨_, _, rfl, fun _ => ⟨b, off, rfl, hc⟩⟩

theorem drew_add (w : World) (a b : Nat) : (w.drewN a).drewN b = w.drewN (a + b) := by simp [World.drewN, Nat.add_assoc]
set_option maxHeartbeats 2000000 in
/-- Two equal lists of rows are the same. -/
theorem same_yes (top : Nat) (va vb : Value) (rows : List (List ByteArray)) (w : World) (ha : RowsV top w va rows) (hb : RowsV top w vb rows) (hn : rows.length ≤ 140737488355328) (hn2 : ∀ r ∈ rows, r.length ≤ 140737488355328) :
    Calls Tryd.prog 8 #[va, vb] w fun e w' => e = .returned (.bool true) ∧ ∃ n, w' = w.drewN n := by
  obtain ⟨sa, ha1, ha2, ha3⟩ := ha
  obtain ⟨sb, hb1, hb2, hb3⟩ := hb
  obtain ⟨aa, ca, rfl, hac⟩ := ha1.at
  obtain ⟨ab, cb, rfl, hbc⟩ := hb1.at
  rw [ha2] at hac ⊢
  rw [hb2] at hbc ⊢
  have HA := hid hac
  have HB := hid hbc
  have HA3 := hid ha3
  have HB3 := hid hb3
  have HA2 := hid ha2
  have HB2 := hid hb2
  have HN2 := hid hn2
  clear ha3 hb3 hac hbc ha1 hb1 ha2 hb2 hn2
  go_enter Tryd.func8, Tryd.ntmps8
  go_wp2
  go_loopw [5, 6] (fun i _ wr => ∃ (k n : Nat), k ≤ rows.length ∧ i = .int .i64 k ∧ wr = w.drewN n) (fun i _ _ => rows.length - (intOf i).toNat)
  case atStart => exact ⟨0, 0, Nat.zero_le _, rfl, rfl⟩
  case round =>
    obtain ⟨k, n0, hk, rfl, rfl⟩ := hrel
    by_cases hlt : k < rows.length
    · obtain ⟨b1, o1, rfl, hc1⟩ := HA.out (by omega)
      obtain ⟨b2, o2, rfl, hc2⟩ := HB.out (by omega)
      obtain ⟨s1, hs1⟩ : ∃ s1, sa[k]? = some s1 := ⟨_, getq (by have := HA2.out; omega)⟩
      obtain ⟨s2, hs2⟩ : ∃ s2, sb[k]? = some s2 := ⟨_, getq (by have := HB2.out; omega)⟩
      obtain ⟨row, hrow⟩ : ∃ row, rows[k]? = some row := ⟨_, getq hlt⟩
      obtain ⟨a1, d1, rfl, he1⟩ := (HA3.out k s1 row hs1 hrow).at
      obtain ⟨a2, d2, rfl, he2⟩ := (HB3.out k s2 row hs2 hrow).at
      have hcell1 := hc1 k _ hs1
      have hcell2 := hc2 k _ hs2
      have hrn := HN2.out row (List.mem_of_getElem? hrow)
      simp only [strs, List.length_map] at hcell1 hcell2 he1 he2
      have HE1 := hid he1
      have HE2 := hid he2
      clear hc1 hc2 hs1 hs2 hrow he1 he2
      go_wp2
      go_quiet (fail)
      go_wp2
      go_loopw [6] (fun i wr => ∃ (j n : Nat), j ≤ row.length ∧ i = .int .i64 j ∧ wr = w.drewN n) (fun i _ => row.length - (intOf i).toNat)
      case atStart => exact ⟨0, _, Nat.zero_le _, rfl, drew_add w n0 _⟩
      case round =>
        obtain ⟨j, n1, hj, rfl, rfl⟩ := hrel
        by_cases hjl : j < row.length
        · obtain ⟨b3, o3, rfl, hc3⟩ := HE1.out (by omega)
          obtain ⟨b4, o4, rfl, hc4⟩ := HE2.out (by omega)
          have hcell3 := hc3 j (.string row[j]) (by simp [hjl])
          have hcell4 := hc4 j (.string row[j]) (by simp [hjl])
          clear hc3 hc4
          generalize row[j] = sx at hcell3 hcell4
          go_wp2
          go_quiet (fail)
          go_wp2
          go_roundw
          case rel => exact ⟨j + 1, _, by omega, by go_num, rfl⟩
          case measure => simp [intOf]; omega
        · go_wp2
          go_roundw
          case rel => exact ⟨k + 1, n1, by omega, by go_num, rfl⟩
          case measure => simp [intOf]; omega
    · go_wp2
      go_ret
      exact ⟨rfl, n0, rfl⟩
end Go.Proofs.YtpkdnmjcommbmaaDoor
