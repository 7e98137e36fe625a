/- place.cutter: what cuts a text's front off. -/
import Derived.Test.YtgfgbihcapkikaaDoorPrint
namespace Go.Proofs.YtgfgbihcapkikaaDoor
open Go.RowKit

/-- How many bytes are cut off: as long as a byte is so, at most m. -/
def cutN (p : Nat → Bool) : Nat → List UInt8 → Nat
  | 0, _ => 0
  | _, [] => 0
  | m + 1, c :: r => if p c.toNat then cutN p m r + 1 else 0
theorem cutN_zero (p : Nat → Bool) (l : List UInt8) : cutN p 0 l = 0 := by cases l <;> rfl
theorem cutN_nil (p : Nat → Bool) (m : Nat) : cutN p m [] = 0 := by cases m <;> rfl
theorem byte_at (s : ByteArray) (k : Nat) (h : k < s.size) : ∃ h' : k < s.data.toList.length, s.data.toList[k] = s[k] := ⟨by simpa using h, by simp; rfl⟩
theorem cutN_step {p : Nat → Bool} {s : ByteArray} {most k : Nat} (h1 : k < s.size) (h2 : k < most) :
    cutN p (most - k) (s.data.toList.drop k) = if p s[k].toNat then cutN p (most - (k + 1)) (s.data.toList.drop (k + 1)) + 1 else 0 := by
  obtain ⟨h', he⟩ := byte_at s k h1
  rw [List.drop_eq_getElem_cons h', he, show most - k = (most - (k + 1)) + 1 by omega]
  rfl
theorem cutN_end {p : Nat → Bool} {s : ByteArray} {most k : Nat} (h1 : ¬ k < s.size ∨ ¬ k < most) : cutN p (most - k) (s.data.toList.drop k) = 0 := by
  rcases h1 with h1 | h1
  · rw [List.drop_eq_nil_of_le (by rw [← size_list]; omega), cutN_nil]
  · rw [show most - k = 0 by omega, cutN_zero]
theorem extract_front (s : ByteArray) (k : Nat) : s.extract 0 k = bas (s.data.toList.take k) := by
  apply ByteArray.ext
  rw [ByteArray.data_extract]
  apply Array.toList_inj.1
  simp [bas]
theorem extract_rest (s : ByteArray) (k : Nat) : s.extract k s.size = bas (s.data.toList.drop k) := by
  apply ByteArray.ext
  rw [ByteArray.data_extract]
  apply Array.toList_inj.1
  simp [bas]
  exact List.take_of_length_le (by simp)
theorem cutter_any (s : ByteArray) (w : World) : Calls Tryd.prog 17 #[.string s] w fun e w' => e = .returned (.func (.func 29) #[] #[.pointer (some ⟨w.heap.size, 0, none⟩)]) ∧ w' = w.alloc (.cells #[.string s] 9) := by
  have hmf : ∀ (fn : Fn) (first cap : Array Value) (w : World), (Instr.makeFunc fn first cap).run Tryd.prog w = .ok (.func fn first cap) w := fun _ _ _ _ => rfl
  go_enter Tryd.func17, Tryd.ntmps17
  go_wp2_with fail
  go_ret
  exact ⟨rfl, rfl⟩
def CutPost (p : Nat → Bool) (most : Nat) (s : ByteArray) (b : Nat) (w : World) (e : Ending) (w' : World) : Prop :=
  e = .returned (.string (bas (s.data.toList.take (cutN p most s.data.toList)))) ∧ w' = w.setCell ⟨b, 0, none⟩ (.string (bas (s.data.toList.drop (cutN p most s.data.toList))))
def p_d1 : Nat → Bool := fun c => decide (c = 36)
theorem d1_p (c : UInt8) (w : World) : Calls Tryd.prog 18 #[.int .u8 (c.toNat : Int)] w fun e w' => e = .returned (.bool (p_d1 c.toNat)) ∧ w = w' := d1_any c w
set_option maxHeartbeats 1000000 in
theorem cut_d1 (s : ByteArray) (most b : Nat) (w : World) (hs : s.size ≤ maxLen) (hc : w.cell? ⟨b, 0, none⟩ = some (.string s)) (hf : w.frozen? ⟨b, 0, none⟩ = false) :
    Calls Tryd.prog 29 #[.int .i64 most, .func (.func 18) #[] #[], .pointer (some ⟨b, 0, none⟩)] w (CutPost p_d1 most s b w) := by
  unfold maxLen at hs
  go_enter Tryd.func29, Tryd.ntmps29
  go_wp2_with fail
  go_loop [6] (fun i => ∃ k : Nat, k ≤ s.size ∧ i = .int .i64 k ∧ Hid (cutN p_d1 most s.data.toList = k + cutN p_d1 (most - k) (s.data.toList.drop k))) (fun i => s.size - (intOf i).toNat)
  case atStart => exact ⟨0, Nat.zero_le _, rfl, hid (by simp)⟩
  case round =>
    obtain ⟨k, hk, rfl, HI⟩ := hrel
    by_cases h1 : k < s.size
    · by_cases h2 : k < most
      · have HS := hid (cutN_step (p := p_d1) (s := s) h1 h2)
        cases h3 : p_d1 s[k].toNat with
        | true =>
          have HP := hid h3
          clear h3
          go_wp2_with (go_at_call 18; refine (d1_p _ _).mono ?_; rintro e w' ⟨rfl, rfl⟩; rw [HP.out])
          go_round
          case rel => exact ⟨k + 1, by omega, by go_num, hid (by rw [HI.out, HS.out, HP.out]; simp; omega)⟩
          case measure => simp [intOf]; omega
        | false =>
          have HE : Hid (cutN p_d1 most s.data.toList = k) := hid (by rw [HI.out, HS.out, h3]; simp)
          have HP := hid h3
          have H1 := hid (extract_front s k)
          have H2 := hid (extract_rest s k)
          clear h3
          go_wp2_with (go_at_call 18; refine (d1_p _ _).mono ?_; rintro e w' ⟨rfl, rfl⟩; rw [HP.out])
          go_ret
          exact ⟨by rw [HE.out, ← H1.out]; rfl, by rw [HE.out, ← H2.out]⟩
      · have HE : Hid (cutN p_d1 most s.data.toList = k) := hid (by rw [HI.out, cutN_end (.inr h2)]; simp)
        have H1 := hid (extract_front s k)
        have H2 := hid (extract_rest s k)
        go_wp2_with fail
        go_ret
        exact ⟨by rw [HE.out, ← H1.out]; rfl, by rw [HE.out, ← H2.out]⟩
    · have HE : Hid (cutN p_d1 most s.data.toList = k) := hid (by rw [HI.out, cutN_end (.inl h1)]; simp)
      have H1 := hid (extract_front s k)
      have H2 := hid (extract_rest s k)
      go_wp2_with fail
      go_ret
      exact ⟨by rw [HE.out, ← H1.out]; rfl, by rw [HE.out, ← H2.out]⟩
def p_d2 : Nat → Bool := fun c => decide (48 ≤ c ∧ c ≤ 57)
theorem d2_p (c : UInt8) (w : World) : Calls Tryd.prog 19 #[.int .u8 (c.toNat : Int)] w fun e w' => e = .returned (.bool (p_d2 c.toNat)) ∧ w = w' := d2_any c w
set_option maxHeartbeats 1000000 in
theorem cut_d2 (s : ByteArray) (most b : Nat) (w : World) (hs : s.size ≤ maxLen) (hc : w.cell? ⟨b, 0, none⟩ = some (.string s)) (hf : w.frozen? ⟨b, 0, none⟩ = false) :
    Calls Tryd.prog 29 #[.int .i64 most, .func (.func 19) #[] #[], .pointer (some ⟨b, 0, none⟩)] w (CutPost p_d2 most s b w) := by
  unfold maxLen at hs
  go_enter Tryd.func29, Tryd.ntmps29
  go_wp2_with fail
  go_loop [6] (fun i => ∃ k : Nat, k ≤ s.size ∧ i = .int .i64 k ∧ Hid (cutN p_d2 most s.data.toList = k + cutN p_d2 (most - k) (s.data.toList.drop k))) (fun i => s.size - (intOf i).toNat)
  case atStart => exact ⟨0, Nat.zero_le _, rfl, hid (by simp)⟩
  case round =>
    obtain ⟨k, hk, rfl, HI⟩ := hrel
    by_cases h1 : k < s.size
    · by_cases h2 : k < most
      · have HS := hid (cutN_step (p := p_d2) (s := s) h1 h2)
        cases h3 : p_d2 s[k].toNat with
        | true =>
          have HP := hid h3
          clear h3
          go_wp2_with (go_at_call 19; refine (d2_p _ _).mono ?_; rintro e w' ⟨rfl, rfl⟩; rw [HP.out])
          go_round
          case rel => exact ⟨k + 1, by omega, by go_num, hid (by rw [HI.out, HS.out, HP.out]; simp; omega)⟩
          case measure => simp [intOf]; omega
        | false =>
          have HE : Hid (cutN p_d2 most s.data.toList = k) := hid (by rw [HI.out, HS.out, h3]; simp)
          have HP := hid h3
          have H1 := hid (extract_front s k)
          have H2 := hid (extract_rest s k)
          clear h3
          go_wp2_with (go_at_call 19; refine (d2_p _ _).mono ?_; rintro e w' ⟨rfl, rfl⟩; rw [HP.out])
          go_ret
          exact ⟨by rw [HE.out, ← H1.out]; rfl, by rw [HE.out, ← H2.out]⟩
      · have HE : Hid (cutN p_d2 most s.data.toList = k) := hid (by rw [HI.out, cutN_end (.inr h2)]; simp)
        have H1 := hid (extract_front s k)
        have H2 := hid (extract_rest s k)
        go_wp2_with fail
        go_ret
        exact ⟨by rw [HE.out, ← H1.out]; rfl, by rw [HE.out, ← H2.out]⟩
    · have HE : Hid (cutN p_d2 most s.data.toList = k) := hid (by rw [HI.out, cutN_end (.inl h1)]; simp)
      have H1 := hid (extract_front s k)
      have H2 := hid (extract_rest s k)
      go_wp2_with fail
      go_ret
      exact ⟨by rw [HE.out, ← H1.out]; rfl, by rw [HE.out, ← H2.out]⟩
def p_d3 : Nat → Bool := fun c => decide (0 < letN c)
theorem d3_p (c : UInt8) (w : World) : Calls Tryd.prog 20 #[.int .u8 (c.toNat : Int)] w fun e w' => e = .returned (.bool (p_d3 c.toNat)) ∧ w = w' := d3_any c w
set_option maxHeartbeats 1000000 in
theorem cut_d3 (s : ByteArray) (most b : Nat) (w : World) (hs : s.size ≤ maxLen) (hc : w.cell? ⟨b, 0, none⟩ = some (.string s)) (hf : w.frozen? ⟨b, 0, none⟩ = false) :
    Calls Tryd.prog 29 #[.int .i64 most, .func (.func 20) #[] #[], .pointer (some ⟨b, 0, none⟩)] w (CutPost p_d3 most s b w) := by
  unfold maxLen at hs
  go_enter Tryd.func29, Tryd.ntmps29
  go_wp2_with fail
  go_loop [6] (fun i => ∃ k : Nat, k ≤ s.size ∧ i = .int .i64 k ∧ Hid (cutN p_d3 most s.data.toList = k + cutN p_d3 (most - k) (s.data.toList.drop k))) (fun i => s.size - (intOf i).toNat)
  case atStart => exact ⟨0, Nat.zero_le _, rfl, hid (by simp)⟩
  case round =>
    obtain ⟨k, hk, rfl, HI⟩ := hrel
    by_cases h1 : k < s.size
    · by_cases h2 : k < most
      · have HS := hid (cutN_step (p := p_d3) (s := s) h1 h2)
        cases h3 : p_d3 s[k].toNat with
        | true =>
          have HP := hid h3
          clear h3
          go_wp2_with (go_at_call 20; refine (d3_p _ _).mono ?_; rintro e w' ⟨rfl, rfl⟩; rw [HP.out])
          go_round
          case rel => exact ⟨k + 1, by omega, by go_num, hid (by rw [HI.out, HS.out, HP.out]; simp; omega)⟩
          case measure => simp [intOf]; omega
        | false =>
          have HE : Hid (cutN p_d3 most s.data.toList = k) := hid (by rw [HI.out, HS.out, h3]; simp)
          have HP := hid h3
          have H1 := hid (extract_front s k)
          have H2 := hid (extract_rest s k)
          clear h3
          go_wp2_with (go_at_call 20; refine (d3_p _ _).mono ?_; rintro e w' ⟨rfl, rfl⟩; rw [HP.out])
          go_ret
          exact ⟨by rw [HE.out, ← H1.out]; rfl, by rw [HE.out, ← H2.out]⟩
      · have HE : Hid (cutN p_d3 most s.data.toList = k) := hid (by rw [HI.out, cutN_end (.inr h2)]; simp)
        have H1 := hid (extract_front s k)
        have H2 := hid (extract_rest s k)
        go_wp2_with fail
        go_ret
        exact ⟨by rw [HE.out, ← H1.out]; rfl, by rw [HE.out, ← H2.out]⟩
    · have HE : Hid (cutN p_d3 most s.data.toList = k) := hid (by rw [HI.out, cutN_end (.inl h1)]; simp)
      have H1 := hid (extract_front s k)
      have H2 := hid (extract_rest s k)
      go_wp2_with fail
      go_ret
      exact ⟨by rw [HE.out, ← H1.out]; rfl, by rw [HE.out, ← H2.out]⟩
def p_d4 : Nat → Bool := fun _ => true
theorem d4_p (c : UInt8) (w : World) : Calls Tryd.prog 22 #[.int .u8 (c.toNat : Int)] w fun e w' => e = .returned (.bool (p_d4 c.toNat)) ∧ w = w' := d4_any c w
set_option maxHeartbeats 1000000 in
theorem cut_d4 (s : ByteArray) (most b : Nat) (w : World) (hs : s.size ≤ maxLen) (hc : w.cell? ⟨b, 0, none⟩ = some (.string s)) (hf : w.frozen? ⟨b, 0, none⟩ = false) :
    Calls Tryd.prog 29 #[.int .i64 most, .func (.func 22) #[] #[], .pointer (some ⟨b, 0, none⟩)] w (CutPost p_d4 most s b w) := by
  unfold maxLen at hs
  go_enter Tryd.func29, Tryd.ntmps29
  go_wp2_with fail
  go_loop [6] (fun i => ∃ k : Nat, k ≤ s.size ∧ i = .int .i64 k ∧ Hid (cutN p_d4 most s.data.toList = k + cutN p_d4 (most - k) (s.data.toList.drop k))) (fun i => s.size - (intOf i).toNat)
  case atStart => exact ⟨0, Nat.zero_le _, rfl, hid (by simp)⟩
  case round =>
    obtain ⟨k, hk, rfl, HI⟩ := hrel
    by_cases h1 : k < s.size
    · by_cases h2 : k < most
      · have HS := hid (cutN_step (p := p_d4) (s := s) h1 h2)
        cases h3 : p_d4 s[k].toNat with
        | true =>
          have HP := hid h3
          clear h3
          go_wp2_with (go_at_call 22; refine (d4_p _ _).mono ?_; rintro e w' ⟨rfl, rfl⟩; rw [HP.out])
          go_round
          case rel => exact ⟨k + 1, by omega, by go_num, hid (by rw [HI.out, HS.out, HP.out]; simp; omega)⟩
          case measure => simp [intOf]; omega
        | false =>
          have HE : Hid (cutN p_d4 most s.data.toList = k) := hid (by rw [HI.out, HS.out, h3]; simp)
          have HP := hid h3
          have H1 := hid (extract_front s k)
          have H2 := hid (extract_rest s k)
          clear h3
          go_wp2_with (go_at_call 22; refine (d4_p _ _).mono ?_; rintro e w' ⟨rfl, rfl⟩; rw [HP.out])
          go_ret
          exact ⟨by rw [HE.out, ← H1.out]; rfl, by rw [HE.out, ← H2.out]⟩
      · have HE : Hid (cutN p_d4 most s.data.toList = k) := hid (by rw [HI.out, cutN_end (.inr h2)]; simp)
        have H1 := hid (extract_front s k)
        have H2 := hid (extract_rest s k)
        go_wp2_with fail
        go_ret
        exact ⟨by rw [HE.out, ← H1.out]; rfl, by rw [HE.out, ← H2.out]⟩
    · have HE : Hid (cutN p_d4 most s.data.toList = k) := hid (by rw [HI.out, cutN_end (.inl h1)]; simp)
      have H1 := hid (extract_front s k)
      have H2 := hid (extract_rest s k)
      go_wp2_with fail
      go_ret
      exact ⟨by rw [HE.out, ← H1.out]; rfl, by rw [HE.out, ← H2.out]⟩
theorem one_cell (W : World) (v : Value) (t g : Nat) (hg : W.heap.size = g) : (W.alloc (.cells #[v] t)).cell? ⟨g, 0, none⟩ = some v := by subst hg; rw [World.cell?_alloc_at _ _ _ _ rfl]; rfl
theorem one_free (W : World) (v : Value) (t g : Nat) (hg : W.heap.size = g) : (W.alloc (.cells #[v] t)).frozen? ⟨g, 0, none⟩ = false := by subst hg; exact World.frozen?_alloc_at _ _ _ _ rfl
theorem one_set (W : World) (v x : Value) (t g : Nat) (hg : W.heap.size = g) : (W.alloc (.cells #[v] t)).setCell ⟨g, 0, none⟩ x = W.alloc (.cells #[x] t) := by
  subst hg; rw [World.setCell_alloc_at _ _ _ _ _ rfl]; rfl
theorem cut1_d1 (s : ByteArray) (most g : Nat) (W : World) (hs : s.size ≤ maxLen) (hg : W.heap.size = g) :
    Calls Tryd.prog 29 #[.int .i64 most, .func (.func 18) #[] #[], .pointer (some ⟨g, 0, none⟩)] (W.alloc (.cells #[.string s] 9)) fun e w' =>
      e = .returned (.string (bas (s.data.toList.take (cutN p_d1 most s.data.toList)))) ∧ w' = W.alloc (.cells #[.string (bas (s.data.toList.drop (cutN p_d1 most s.data.toList)))] 9) := by
  refine (cut_d1 s most g _ hs (one_cell _ _ _ _ hg) (one_free _ _ _ _ hg)).mono ?_
  rintro e w' ⟨he, hw⟩
  rw [one_set _ _ _ _ _ hg] at hw
  exact ⟨he, hw⟩
theorem cut1_d2 (s : ByteArray) (most g : Nat) (W : World) (hs : s.size ≤ maxLen) (hg : W.heap.size = g) :
    Calls Tryd.prog 29 #[.int .i64 most, .func (.func 19) #[] #[], .pointer (some ⟨g, 0, none⟩)] (W.alloc (.cells #[.string s] 9)) fun e w' =>
      e = .returned (.string (bas (s.data.toList.take (cutN p_d2 most s.data.toList)))) ∧ w' = W.alloc (.cells #[.string (bas (s.data.toList.drop (cutN p_d2 most s.data.toList)))] 9) := by
  refine (cut_d2 s most g _ hs (one_cell _ _ _ _ hg) (one_free _ _ _ _ hg)).mono ?_
  rintro e w' ⟨he, hw⟩
  rw [one_set _ _ _ _ _ hg] at hw
  exact ⟨he, hw⟩
theorem cut1_d3 (s : ByteArray) (most g : Nat) (W : World) (hs : s.size ≤ maxLen) (hg : W.heap.size = g) :
    Calls Tryd.prog 29 #[.int .i64 most, .func (.func 20) #[] #[], .pointer (some ⟨g, 0, none⟩)] (W.alloc (.cells #[.string s] 9)) fun e w' =>
      e = .returned (.string (bas (s.data.toList.take (cutN p_d3 most s.data.toList)))) ∧ w' = W.alloc (.cells #[.string (bas (s.data.toList.drop (cutN p_d3 most s.data.toList)))] 9) := by
  refine (cut_d3 s most g _ hs (one_cell _ _ _ _ hg) (one_free _ _ _ _ hg)).mono ?_
  rintro e w' ⟨he, hw⟩
  rw [one_set _ _ _ _ _ hg] at hw
  exact ⟨he, hw⟩
theorem cut1_d4 (s : ByteArray) (most g : Nat) (W : World) (hs : s.size ≤ maxLen) (hg : W.heap.size = g) :
    Calls Tryd.prog 29 #[.int .i64 most, .func (.func 22) #[] #[], .pointer (some ⟨g, 0, none⟩)] (W.alloc (.cells #[.string s] 9)) fun e w' =>
      e = .returned (.string (bas (s.data.toList.take (cutN p_d4 most s.data.toList)))) ∧ w' = W.alloc (.cells #[.string (bas (s.data.toList.drop (cutN p_d4 most s.data.toList)))] 9) := by
  refine (cut_d4 s most g _ hs (one_cell _ _ _ _ hg) (one_free _ _ _ _ hg)).mono ?_
  rintro e w' ⟨he, hw⟩
  rw [one_set _ _ _ _ _ hg] at hw
  exact ⟨he, hw⟩
end Go.Proofs.YtgfgbihcapkikaaDoor
