/- needs, on a field that has neither quotes nor ends: what it answers. -/
import Derived.Test.YtpkdnmjcommbmaaDoorRune
import Derived.Test.YtpkdnmjcommbmaaDoorWriteA
namespace Go.Proofs.YtpkdnmjcommbmaaDoor
open Go.RowKit Go.Shelf

theorem decode_rune (s : ByteArray) (i : Nat) (h : 128 ≤ (Utf8.decode s i).1) : (Utf8.decode s i).1 ≤ 1114111 ∧ ¬ (55296 ≤ (Utf8.decode s i).1 ∧ (Utf8.decode s i).1 ≤ 57343) := by
  have hb : ∀ k, (s.get! (i + k)).toNat < 256 := fun k => (s.get! (i + k)).toNat_lt
  have h0 := hb 0; have h1 := hb 1; have h2 := hb 2; have h3 := hb 3
  revert h
  simp only [Utf8.decode]
  repeat' split
  all_goals simp_all [Utf8.runeError, Utf8.valid]
  all_goals omega

theorem byte_no (b : UInt8) (hb : 128 ≤ b.toNat) : (if ([10] : List UInt8).takeWhile (· != b) = [10] then True else False) := by
  have : ((10 : UInt8) != b) = true := by
    simp only [bne_iff_ne, ne_eq]
    intro e
    rw [← e] at hb
    exact absurd hb (by decide)
  simp [this]
theorem byte_ten (b : UInt8) (hb : 128 ≤ b.toNat) (W : World) : Calls Tryd.prog 21 #[.string ⟨#[10]⟩, .int .u8 b.toNat] W fun e W' => e = .returned (.int .i64 (-1)) ∧ W' = W := by
  have h1 := byte_no b hb
  have h2 : ([10] : List UInt8).takeWhile (· != b) = [10] := by
    by_cases h : ([10] : List UInt8).takeWhile (· != b) = [10]
    · exact h
    · rw [if_neg h] at h1; exact h1.elim
  refine (indexByte_any [10] b W (-1) (by rw [h2]; rfl)).mono ?_
  rintro e w' ⟨rfl, rfl⟩
  exact ⟨rfl, rfl⟩
theorem byte_nil (b : UInt8) (W : World) : Calls Tryd.prog 21 #[.string ByteArray.empty, .int .u8 b.toNat] W fun e W' => e = .returned (.int .i64 (-1)) ∧ W' = W := by
  refine (indexByte_any [] b W (-1) rfl).mono ?_
  rintro e w' ⟨rfl, rfl⟩
  exact ⟨rfl, rfl⟩
theorem ne_hi (x b : UInt8) (hx : x.toNat < 128) (hb : 128 ≤ b.toNat) : ((x.toNat : Int) != (b.toNat : Int)) = true := by
  simp only [bne_iff_ne, ne_eq]
  omega
theorem rune_no (r : Nat) (w : World) (h0 : 128 ≤ r) (hr : r ≤ 1114111) (h : ¬ (55296 ≤ r ∧ r ≤ 57343)) :
    Calls Tryd.prog 41 #[.string ⟨#[34, 13, 10]⟩, .int .i32 r] w fun e w' => e = .returned (.int .i64 (-1)) ∧ Below w.heap.size w w' := by
  by_cases hn : r = 65533
  · subst hn
    refine rune_err ⟨#[34, 13, 10]⟩ w ?_
    intro i hi
    have hi' : i < 3 := hi
    match i, hi' with
    | 0, _ => exact (by decide : (34 : UInt8).toNat < 128)
    | 1, _ => exact (by decide : (13 : UInt8).toNat < 128)
    | 2, _ => exact (by decide : (10 : UInt8).toNat < 128)
  · obtain ⟨a, b, hb, hE⟩ := enc_hi r h0 hr h
    rcases hE with hE | ⟨c, hE⟩ | ⟨c, d, hE⟩
    · exact rune_two ⟨#[34, 13, 10]⟩ ⟨#[a, b]⟩ r w h0 hr h hn rfl rfl hE 13 b (fun _ => rfl) (fun _ => rfl) (ne_hi 13 b (by decide) hb) ⟨#[10]⟩ rfl (byte_ten b hb)
    · exact rune_three ⟨#[34, 13, 10]⟩ ⟨#[a, c, b]⟩ r w h0 hr h hn rfl rfl hE 10 b (fun _ => rfl) (fun _ => rfl) (ne_hi 10 b (by decide) hb) (byte_nil b)
    · exact rune_four ⟨#[34, 13, 10]⟩ ⟨#[a, c, d, b]⟩ r w h0 hr h hn rfl rfl hE

set_option maxRecDepth 1000000 in
set_option maxHeartbeats 1000000 in
theorem any_short (s : ByteArray) (w : World) (h8 : s.size ≤ 8) (hc : ∀ i (h : i < s.size), (s[i]'h).toNat ≠ 10 ∧ (s[i]'h).toNat ≠ 13 ∧ (s[i]'h).toNat ≠ 34) :
    Calls Tryd.prog 31 #[.string s, .string ⟨#[34, 13, 10]⟩] w fun e w' => e = .returned (.int .i64 (-1)) ∧ Below w.heap.size w w' := by
  have HC := hid hc
  clear hc
  have h8z : decide ((8 : Int) < (s.size : Int)) = false := decide_eq_false (by omega)
  go_enter Tryd.func31, Tryd.ntmps31
  go_wp2_with fail
  refine (Tryd.strings_shouldUseASCIISet _ _).mono ?_
  rw [h8z]
  rintro e w' ⟨rfl, rfl⟩
  go_wp2_with fail
  have hk0 : (w'.iter s 0).heap[w'.heap.size]? = some (.stringIter s 0) := World.iter_heap _ _ _
  have hb0 : Below w'.heap.size w' (w'.iter s 0) := (Below.refl _ w').alloc (Nat.le_refl _) _
  generalize w'.iter s 0 = w0 at *
  go_loopg [9, 10] s.size (fun g _ _ wx => ∃ i : Nat, s.size ≤ i + g ∧ wx.heap[w'.heap.size]? = some (.stringIter s i) ∧ Below w'.heap.size w' wx)
  case atStart => exact ⟨0, by omega, hk0, hb0⟩
  case round =>
    obtain ⟨i, hig, hk, hb⟩ := hrel
    clear hk0 hb0
    by_cases hi : i < s.size
    · cases gk with
      | zero => omega
      | succ g =>
        have hnx := fun ty => Lib.run_next_any_at (P := Tryd.prog) wr w'.heap.size s i ty hk hi
        have hk1 := Lib.iterAt_heap wr w'.heap.size s i (i + (Utf8.decode s i).2) hk
        have hb1 := Lib.below_iterAt hb (Nat.le_refl _) s (i + (Utf8.decode s i).2)
        have hsz := Lib.iterAt_size wr w'.heap.size s (i + (Utf8.decode s i).2)
        have hlt : w'.heap.size < wr.heap.size := some_lt hk
        have hd1 : 1 ≤ (Utf8.decode s i).2 := by
          by_cases ha : (s[i]'hi).toNat < 128
          · rw [decode_ascii s i hi ha]; exact Nat.le_refl _
          · exact (decode_high s i hi (by omega)).2
        have hcall : ∀ W, Calls Tryd.prog 41 #[.string ⟨#[34, 13, 10]⟩, .int .i32 ((Utf8.decode s i).1 : Int)] W fun e W' => e = .returned (.int .i64 (-1)) ∧ Below W.heap.size W W' := by
          intro W
          by_cases ha : (s[i]'hi).toNat < 128
          · rw [decode_ascii s i hi ha]
            obtain ⟨c1, c2, c3⟩ := HC.out i hi
            refine (Tryd.strings_IndexRune_ascii ⟨#[34, 13, 10]⟩ _ W (by omega) (by simp; omega)).mono ?_
            rintro e W' ⟨rfl, rfl⟩
            refine ⟨ret_int ?_, Below.refl _ _⟩
            generalize (s[i]'hi) = x at *
            have hx : ((x.toNat : Int).toNat.toUInt8) = x := by simp
            show Lib.indexByte [34, 13, 10] ((x.toNat : Int).toNat.toUInt8) = -1
            rw [hx, indexByte_tw]
            have d1 : ((34 : UInt8) != x) = true := by simp only [bne_iff_ne, ne_eq]; rintro rfl; exact c3 rfl
            have d2 : ((13 : UInt8) != x) = true := by simp only [bne_iff_ne, ne_eq]; rintro rfl; exact c2 rfl
            have d3 : ((10 : UInt8) != x) = true := by simp only [bne_iff_ne, ne_eq]; rintro rfl; exact c1 rfl
            simp [d1, d2, d3]
          · obtain ⟨k1, _⟩ := decode_high s i hi (by omega)
            obtain ⟨k2, k3⟩ := decode_rune s i k1
            exact rune_no _ W k1 k2 k3
        generalize (Utf8.decode s i).1 = r at *
        generalize (Utf8.decode s i).2 = d at *
        have HCALL := hid hcall
        clear hcall
        generalize hww : wr.iterAt w'.heap.size s (i + d) = w1 at *
        have HSZ := hid hsz
        clear hsz hww
        go_wp2_with fail
        refine (HCALL.out w1).mono ?_
        rintro e w2 ⟨rfl, hb2⟩
        have hs2 := HSZ.out
        go_wp2_with fail
        go_roundg g
        case measure => omega
        case rel => exact ⟨i + d, by omega, (hb2.block _ (by omega)).trans hk1, hb1.trans (hb2.mono (by omega))⟩
    · have hnx := Lib.run_next_end_at (P := Tryd.prog) wr w'.heap.size s i
      go_wp2_with fail
      go_ret
      exact ⟨rfl, hb⟩

theorem zero72 (w : World) : (zeroValue 72).run Tryd.prog w = .ok (.agg (Array.replicate 256 (.bool false))) w :=
  (zero_of_info (show (Tryd.prog.info? 72).map (fun i => (i.zero, i.size)) = some (some (.agg (Array.replicate 256 (.bool false))), 256) by kernel_rfl)).1 w
theorem tw_len (c : UInt8) : ∀ f : List UInt8, (f.takeWhile (· != c)).length = f.length ↔ c ∉ f
  | [] => by simp
  | x :: r => by
    have ih := tw_len c r
    by_cases h : x = c
    · subst h; simp
    · have h1 : (x != c) = true := by simpa using h
      have h2 : (x :: r).takeWhile (· != c) = x :: r.takeWhile (· != c) := by simp [h1]
      rw [h2, List.length_cons, List.length_cons, Nat.add_right_cancel_iff, ih]
      simp [Ne.symm h]
theorem any_no (f : List UInt8) (hf : clean f) (hl : f.length ≤ 1048576) (w : World) :
    Calls Tryd.prog 31 #[.string (bas f), .string ⟨#[34, 13, 10]⟩] w fun e w' => e = .returned (.int .i64 (-1)) ∧ Below w.heap.size w w' := by
  have hsz : (bas f).size = f.length := by show f.toArray.size = _; simp
  by_cases h8 : f.length ≤ 8
  · refine any_short (bas f) w (by omega) ?_
    intro i hi
    have hm : (bas f)[i]'hi ∈ f := by
      have : (bas f)[i]'hi = f[i]'(by omega) := by show f.toArray[i]'hi = _; rfl
      rw [this]; exact List.getElem_mem _
    refine ⟨fun e => hf.1 ?_, fun e => hf.2.1 ?_, fun e => hf.2.2 ?_⟩
    · rw [← UInt8.toNat_inj.1 (show ((bas f)[i]'hi).toNat = (10 : UInt8).toNat from e)]; exact hm
    · rw [← UInt8.toNat_inj.1 (show ((bas f)[i]'hi).toNat = (13 : UInt8).toNat from e)]; exact hm
    · rw [← UInt8.toNat_inj.1 (show ((bas f)[i]'hi).toNat = (34 : UInt8).toNat from e)]; exact hm
  · refine (Tryd.strings_IndexAny_long zero72 (bas f) ⟨#[34, 13, 10]⟩ w (by decide) (by omega) (by omega) (by decide) ?_).mono ?_
    · intro j b hb
      match j, hb with
      | 0, hb => simp at hb; subst hb; decide
      | 1, hb => simp at hb; subst hb; decide
      | 2, hb => simp at hb; subst hb; decide
    · rintro e w' ⟨rfl, rfl⟩
      refine ⟨ret_int ?_, ((Below.refl _ w).alloc (Nat.le_refl _) _).alloc (by simp) _⟩
      have hdt : (bas f).data.toList = f := by show f.toArray.toList = f; simp
      rw [hdt]
      apply Lib.indexAny_none
      intro j b _ hb
      have hm := List.mem_of_getElem? hb
      have n1 : b ≠ 10 := fun e => hf.1 (e ▸ hm)
      have n2 : b ≠ 13 := fun e => hf.2.1 (e ▸ hm)
      have n3 : b ≠ 34 := fun e => hf.2.2 (e ▸ hm)
      show ([34, 13, 10] : List UInt8).contains b = false
      simp [n1, n2, n3]
set_option maxHeartbeats 1000000 in
theorem contains_no (f : List UInt8) (hf : clean f) (hl : f.length ≤ 1048576) (w : World) :
    Calls Tryd.prog 22 #[.string (bas f), .string ⟨#[34, 13, 10]⟩] w fun e w' => e = .returned (.bool false) ∧ Below w.heap.size w w' := by
  have H := hid (any_no f hf hl w)
  clear hf hl
  go_enter Tryd.func22, Tryd.ntmps22
  go_wp2_with fail
  refine H.out.mono ?_
  rintro e w' ⟨rfl, hb⟩
  go_wp2_with fail
  go_ret
  exact ⟨rfl, hb⟩
set_option maxHeartbeats 1000000 in
theorem needs_clean (al : Bool) (f : List UInt8) (c : UInt8) (hf : clean f) (hl : f.length ≤ 1048576) (w : World) :
    Calls Tryd.prog 13 #[.string (bas f), .bool al, .int .u8 (c.toNat : Int)] w fun e w' => e = .returned (.bool ((al && f.isEmpty) || f.contains c)) ∧ Below w.heap.size w w' := by
  have H := hid (contains_no f hf hl)
  clear hf hl
  have hE : (bas f).toList.isEmpty = f.isEmpty := by
    rw [Lib.toList_data]
    show f.toArray.toList.isEmpty = _
    simp
  have HB := hid (indexByte_any f c)
  have hcont := tw_len c f
  have HCO := hid hcont
  clear hcont
  generalize hfe : f.isEmpty = fe at *
  clear hfe
  by_cases hm : c ∈ f
  · have h1 := HB.out w ((f.takeWhile (· != c)).length : Int) (by rw [if_neg (fun h => HCO.out.1 h hm)])
    have hct : f.contains c = true := List.contains_iff_mem.2 hm
    rw [hct]
    have H1 := hid h1
    clear h1 hct HB hm
    generalize (f.takeWhile (· != c)).length = k at *
    clear HCO
    cases al <;> cases fe
    all_goals
      go_enter Tryd.func13, Tryd.ntmps13
      go_wp2_with (go_at_call 21; refine H1.out.mono ?_; rintro e w' ⟨rfl, rfl⟩)
      go_ret
      exact ⟨rfl, Below.refl _ _⟩
  · have h1 := HB.out w (-1) (by rw [if_pos (HCO.out.2 hm)])
    have hct : f.contains c = false := by
      rw [Bool.eq_false_iff]; exact fun h => hm (List.contains_iff_mem.1 h)
    rw [hct]
    have H1 := hid h1
    clear h1 hct HB hm HCO
    cases al <;> cases fe
    all_goals
      go_enter Tryd.func13, Tryd.ntmps13
      go_wp2_with (first | (go_at_call 21; refine H1.out.mono ?_; rintro e w' ⟨rfl, rfl⟩) | (go_at_call 22; refine (H.out _).mono ?_; rintro e w' ⟨rfl, hb⟩))
      go_ret
      first | exact ⟨rfl, Below.refl _ _⟩ | exact ⟨rfl, hb⟩ | exact ⟨rfl, by assumption⟩
end Go.Proofs.YtpkdnmjcommbmaaDoor
