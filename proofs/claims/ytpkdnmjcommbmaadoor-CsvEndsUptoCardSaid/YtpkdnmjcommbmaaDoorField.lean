/- What a plain field reads as. -/
import Derived.Test.YtpkdnmjcommbmaaDoorRead
import Derived.Test.YtpkdnmjcommbmaaDoorStops
namespace Go.Proofs.YtpkdnmjcommbmaaDoor
open Go.RowKit Go.Shelf

set_option maxHeartbeats 400000 in
theorem stop_any (r : Nat) (w : World) (hr : r ≤ 1114111) :
    Calls Tryd.prog 38 #[.int .i32 r] w fun e w' => e = .returned (.bool (stopR r)) ∧ w' = w := by
  rcases (show r = 10 ∨ r = 13 ∨ r = 34 ∨ (r ≠ 10 ∧ r ≠ 13 ∧ r ≠ 34) by omega) with rfl | rfl | rfl | ⟨h1, h2, h3⟩
  · go_enter Tryd.func38, Tryd.ntmps38
    go_wp2
    go_ret
    exact ⟨rfl, rfl⟩
  · go_enter Tryd.func38, Tryd.ntmps38
    go_wp2
    go_ret
    exact ⟨rfl, rfl⟩
  · go_enter Tryd.func38, Tryd.ntmps38
    go_wp2
    go_ret
    exact ⟨rfl, rfl⟩
  · have e1 : ((r : Int) == 10) = false := by rw [beq_eq_false_iff_ne]; omega
    have e2 : ((r : Int) == 13) = false := by rw [beq_eq_false_iff_ne]; omega
    have e3 : ((r : Int) == 34) = false := by rw [beq_eq_false_iff_ne]; omega
    have e4 := hid (show stopR r = false by simp [stopR, h1, h2, h3])
    clear h1 h2 h3
    go_enter Tryd.func38, Tryd.ntmps38
    go_wp2
    go_ret
    exact ⟨ret_bool e4.out.symm, rfl⟩

theorem indexFunc_any (l : List UInt8) (w : World) (r : Int) (hr : (if (tw l).length = l.length then -1 else ((tw l).length : Int)) = r) :
    Calls Tryd.prog 39 #[.string ⟨l.toArray⟩, .func (.func 38) #[] #[]] w fun e w' => e = .returned (.int .i64 r) ∧ Below w.heap.size w w' := by
  refine (Tryd.strings_IndexFunc_runes 38 #[] (enters_of Tryd.func38 (by kernel_rfl) rfl) stopR ⟨l.toArray⟩ w ?_).mono ?_
  · intro W x hx _
    exact (stop_any x W hx).mono fun e w' ⟨h1, h2⟩ => ⟨h1, 0, h2⟩
  · rintro e w' ⟨rfl, hb⟩
    refine ⟨?_, hb⟩
    have := idx_stop ⟨l.toArray⟩
    rw [this, ← hr]

theorem indexByte_tw (c : UInt8) : ∀ l : List UInt8, Lib.indexByte l c = if (l.takeWhile (· != c)).length = l.length then -1 else ((l.takeWhile (· != c)).length : Int)
  | [] => rfl
  | x :: r => by
    unfold Lib.indexByte
    by_cases hx : x = c
    · subst hx; simp
    · have h1 : (x == c) = false := by simpa using hx
      rw [h1, indexByte_tw c r]
      have h2 : (x != c) = true := by simpa using hx
      have h3 : (x :: r).takeWhile (· != c) = x :: r.takeWhile (· != c) := by simp [h2]
      rw [h3]
      simp only [List.length_cons, Nat.add_right_cancel_iff, Bool.false_eq_true, if_false]
      by_cases h : (r.takeWhile (· != c)).length = r.length
      · simp [h]
      · have : (((r.takeWhile (· != c)).length : Int) == -1) = false := by rw [beq_eq_false_iff_ne]; omega
        rw [if_neg h, if_neg h, this]; simp
theorem indexByte_any (l : List UInt8) (c : UInt8) (w : World) (r : Int) (hr : (if (l.takeWhile (· != c)).length = l.length then -1 else ((l.takeWhile (· != c)).length : Int)) = r) :
    Calls Tryd.prog 21 #[.string ⟨l.toArray⟩, .int .u8 c.toNat] w fun e w' => e = .returned (.int .i64 r) ∧ w = w' := by
  refine (Tryd.strings_IndexByte ⟨l.toArray⟩ c.toNat w).mono ?_
  rintro e w' ⟨rfl, rfl⟩
  have h : ((c.toNat : Int).toNat.toUInt8) = c := by simp
  rw [h]
  exact ⟨by rw [← hr, ← indexByte_tw], rfl⟩

/-- A plain field. -/
def plainF (sep : UInt8) (l : List UInt8) : List UInt8 := tw (l.takeWhile (· != sep))
theorem ext_take (l f : List UInt8) (h : f <+: l) : ByteArray.extract ⟨l.toArray⟩ 0 f.length = ⟨f.toArray⟩ := by
  obtain ⟨t, rfl⟩ := h
  have h := Lib.extract_data ⟨(f ++ t).toArray⟩ 0 f.length
  have h2 : ((f ++ t).drop 0).take (f.length - 0) = f := by simp
  have h3 : ((ByteArray.extract ⟨(f ++ t).toArray⟩ 0 f.length).data.toList) = f := h.trans h2
  apply ByteArray.ext
  apply Array.ext'
  exact h3
theorem tw_prefix (l : List UInt8) : tw l <+: l := List.takeWhile_prefix _
theorem prefix_len {f l : List UInt8} (h : f <+: l) (hl : f.length = l.length) : f = l := h.eq_of_length hl

def plainPost (R : Nat) (s : ByteArray) (a : Nat) (sep bad : Int) (f : List UInt8) (isBad : Bool) (w : World) (e : Ending) (w' : World) : Prop :=
  Keep R w w' ∧ if isBad then e = .returned (.string ⟨#[]⟩) ∧ RdAt R s (a + f.length) sep (a + f.length) w' else e = .returned (.string ⟨f.toArray⟩) ∧ RdAt R s (a + f.length) sep bad w'

set_option maxHeartbeats 1000000 in
theorem plain_walk (R : Nat) (s : ByteArray) (a : Nat) (sep : UInt8) (bad : Int) (d f1 f : List UInt8) (isBad : Bool) (w : World) (h : RdAt R s a sep.toNat bad w) (ha : a ≤ s.size) (hs : s.size ≤ 140737488351232)
    (hd : s.extract a s.size = ⟨d.toArray⟩) (hdl : a + f.length ≤ s.size)
    (H1 : (f1 = d ∧ Hid ((if (d.takeWhile (· != sep)).length = d.length then -1 else ((d.takeWhile (· != sep)).length : Int)) = -1)) ∨
      (ByteArray.extract ⟨d.toArray⟩ 0 f1.length = ⟨f1.toArray⟩ ∧ f1.length ≤ d.length ∧ Hid ((if (d.takeWhile (· != sep)).length = d.length then -1 else ((d.takeWhile (· != sep)).length : Int)) = f1.length)))
    (H2 : (f = f1 ∧ Hid ((if (tw f1).length = f1.length then -1 else ((tw f1).length : Int)) = -1)) ∨
      (ByteArray.extract ⟨f1.toArray⟩ 0 f.length = ⟨f.toArray⟩ ∧ f.length ≤ f1.length ∧ Hid ((if (tw f1).length = f1.length then -1 else ((tw f1).length : Int)) = f.length)))
    (hp : Hid (Lib.hasPrefix (s.data.toList.drop (a + f.length)) [34] = isBad)) :
    Calls Tryd.prog 27 #[.pointer (some ⟨R, 0, none⟩)] w (plainPost R s a sep.toNat bad f isBad w) := by
  obtain ⟨⟨hc0, hc1, hc2, hc3⟩, hf1, hf3⟩ := h.cells
  have hlt := h.lt
  have H := hid h
  clear h
  rcases H1 with ⟨rfl, HI1⟩ | ⟨he1, hl1, HI1⟩ <;> rcases H2 with ⟨rfl, HI2⟩ | ⟨he2, hl2, HI2⟩
  all_goals
    go_enter Tryd.func27, Tryd.ntmps27
    go_wp2
    go_quiet (fail)
    go_wp2_with fail
    refine (indexByte_any _ sep _ _ HI1.out).mono ?_
    rintro e w1 ⟨rfl, rfl⟩
    go_wp2_with fail
    refine (indexFunc_any _ _ _ HI2.out).mono ?_
    rintro e w2 ⟨rfl, hb2⟩
    have hA2 := RdAt.below (w := w.drewN nq) H.out hb2 (by simpa using hlt)
    obtain ⟨⟨kc0, kc1, kc2, kc3⟩, kf1, kf3⟩ := hA2.cells
    have hA3 := hA2.setAt (a + f.length)
    have HA2 := hid hA2
    clear hA2
    obtain ⟨⟨mc0, mc1, mc2, mc3⟩, mf1, mf3⟩ := hA3.cells
    have HA3 := hid hA3
    clear hA3
    have hex2 := extract_list s (a + f.length)
    go_wp2_with fail
    go_quiet ((go_at_call 25; exact Calls.quiet_of_same (hasPrefix_q _ _ _ hp.out _)))
    have hk3 : Keep R w ((w2.setCell ⟨R, 1, none⟩ (.int .i64 (a + f.length)))) := ((Keep.of_below (Below.trans (bdrew (Below.refl _ w) _) hb2))).trans ((Keep.refl R w2).setCell 1 _)
    cases isBad
    · go_wp2_with fail
      go_ret
      exact ⟨hk3.drewN _, rfl, HA3.out⟩
    · go_wp2_with fail
      refine (wrong_any R s (a + f.length) sep.toNat bad _ (World.drewN _ _) (by exact HA3.out)).mono ?_
      rintro e w4 ⟨rfl, hA4, hk4⟩
      go_wp2_with fail
      go_ret
      exact ⟨(hk3.drewN _).trans hk4, rfl, hA4⟩
theorem plain_any (R : Nat) (s : ByteArray) (a : Nat) (sep : UInt8) (bad : Int) (w : World) (h : RdAt R s a sep.toNat bad w) (ha : a ≤ s.size) (hs : s.size ≤ 140737488351232) (isBad : Bool)
    (hp : Hid (Lib.hasPrefix (s.data.toList.drop (a + (plainF sep (s.data.toList.drop a)).length)) [34] = isBad)) :
    Calls Tryd.prog 27 #[.pointer (some ⟨R, 0, none⟩)] w (plainPost R s a sep.toNat bad (plainF sep (s.data.toList.drop a)) isBad w) := by
  have hp1 : (s.data.toList.drop a).takeWhile (· != sep) <+: s.data.toList.drop a := List.takeWhile_prefix _
  have hp2 : plainF sep (s.data.toList.drop a) <+: (s.data.toList.drop a).takeWhile (· != sep) := tw_prefix _
  have hl1 := hp1.length_le
  have hl2 := hp2.length_le
  have hld : (s.data.toList.drop a).length = s.size - a := by simp
  refine plain_walk R s a sep bad (s.data.toList.drop a) ((s.data.toList.drop a).takeWhile (· != sep)) _ isBad w h ha hs (extract_list s a) (by omega) ?_ ?_ hp
  · by_cases e : ((s.data.toList.drop a).takeWhile (· != sep)).length = (s.data.toList.drop a).length
    · exact .inl ⟨prefix_len hp1 e, hid (if_pos e)⟩
    · exact .inr ⟨ext_take _ _ hp1, hl1, hid (if_neg e)⟩
  · by_cases e : (plainF sep (s.data.toList.drop a)).length = ((s.data.toList.drop a).takeWhile (· != sep)).length
    · exact .inl ⟨prefix_len hp2 e, hid (if_pos e)⟩
    · exact .inr ⟨ext_take _ _ hp2, hl2, hid (if_neg e)⟩
end Go.Proofs.YtpkdnmjcommbmaaDoor
