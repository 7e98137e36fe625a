/- PlaceCells: the walk: of every cell and every text the law returns true. -/
import Derived.Test.YtgfgbihcapkikaaDoorLives
namespace Go.Proofs.YtgfgbihcapkikaaDoor
open Go.RowKit

def prS (r c : Int) (fr fc : Bool) : ByteArray := if isB r c then bas (printL r.toNat c.toNat fr fc) else ⟨#[]⟩
def prE (r c : Int) : Int := if isB r c then 0 else 2
theorem prPost_form {r c : Int} {fr fc : Bool} {e : Ending} (h : PrPost r c fr fc e) : e = .returned (.tuple #[.string (prS r c fr fc), .int .i64 (prE r c)]) := by
  unfold PrPost at h; unfold prS prE
  cases hb : isB r c <;> simp only [hb] at h ⊢ <;> exact h
theorem print_form (r c : Int) (fr fc : Bool) (w : World) (ht : Tab w) :
    Calls Tryd.prog 5 #[.agg #[.int .i64 r, .int .i64 c, .bool fr, .bool fc]] w fun e w' => e = .returned (.tuple #[.string (prS r c fr fc), .int .i64 (prE r c)]) ∧ Below w.heap.size w w' :=
  (print_any r c fr fc w ht).mono fun _ _ h => ⟨prPost_form h.1, h.2⟩
theorem refPrint_form (r c : Int) (fr fc : Bool) (w : World) (ht : Tab w) :
    Calls Tryd.prog 6 #[.agg #[.int .i64 r, .int .i64 c, .bool fr, .bool fc]] w fun e w' => e = .returned (.tuple #[.string (prS r c fr fc), .int .i64 (prE r c)]) ∧ Below w.heap.size w w' :=
  (refPrint_any r c fr fc w ht).mono fun _ _ h => ⟨prPost_form h.1, h.2⟩
theorem parse_form (s : ByteArray) (w : World) (hs : s.size ≤ maxLen) :
    Calls Tryd.prog 7 #[.string s] w fun e w' => e = .returned (parseL s.data.toList).val ∧ Below w.heap.size w w' := by
  have h := parse_any s.data.toList w (by rw [← size_list]; exact hs)
  rw [← bas_of] at h
  exact h
theorem refParse_form (s : ByteArray) (w : World) (hs : s.size ≤ maxLen) :
    Calls Tryd.prog 8 #[.string s] w fun e w' => e = .returned (parseL s.data.toList).val ∧ Below w.heap.size w w' := by
  have h := refParse_any s.data.toList w (by rw [← size_list]; exact hs)
  rw [← bas_of] at h
  exact h
set_option maxHeartbeats 4000000 in
theorem cells_yes (r c : Int) (fr fc : Bool) (s : ByteArray) (w : World) (hs : s.size ≤ maxLen) (ht : Tab w) :
    Calls Tryd.prog 3 #[.agg #[.int .i64 r, .int .i64 c, .bool fr, .bool fc], .string s] w fun e w' => e = .returned (.bool true) ∧ Below w.heap.size w w' := by
  have HT := hid ht
  have HS := hid hs
  clear ht hs
  generalize hx : parseL s.data.toList = X
  have HX := hid hx
  clear hx
  generalize hp : prS r c fr fc = P
  generalize hq : prE r c = Q
  have HP := hid hp
  have HQ := hid hq
  clear hp hq
  obtain ⟨x1, x2, x3, x4, x5⟩ := X
  go_enter Tryd.func3, Tryd.ntmps3
  go_wp2_with fail
  refine (print_form _ _ _ _ _ (tab_below HT.out ((Below.refl _ _).alloc (Nat.le_refl _) _))).mono ?_; rintro e w1 ⟨rfl, hb1⟩
  rw [HP.out, HQ.out]
  have s1 : w.heap.size < w1.heap.size := by have := hb1.size; simp at this; omega
  have HB1 : Hid (Below w.heap.size w w1) := hid (((Below.refl _ w).alloc (Nat.le_refl _) _).trans (hb1.mono (by simp)))
  obtain ⟨hc1, hf1⟩ := bthru hb1
  clear hb1
  go_wp2_with fail
  refine (refPrint_form _ _ _ _ _ (tab_below HT.out HB1.out)).mono ?_; rintro e w2 ⟨rfl, hb2⟩
  rw [HP.out, HQ.out]
  have HB2 : Hid (Below w.heap.size w w2) := hid (HB1.out.trans (hb2.mono HB1.out.size))
  clear hb2 HB1
  go_wp2_with fail
  refine (parse_form s _ HS.out).mono ?_; rintro e w3 ⟨rfl, hb3⟩
  rw [HX.out]
  have HB3 : Hid (Below w.heap.size w w3) := hid (HB2.out.trans (hb3.mono HB2.out.size))
  clear hb3 HB2
  unfold PRes.val
  go_wp2_with fail
  refine (refParse_form s _ HS.out).mono ?_; rintro e w4 ⟨rfl, hb4⟩
  rw [HX.out]
  have HB4 : Hid (Below w.heap.size w w4) := hid (HB3.out.trans (((Below.refl _ w3).alloc HB3.out.size _).trans (hb4.mono (by have := HB3.out.size; simp; omega))))
  have s4 : w3.heap.size < w4.heap.size := by have := hb4.size; simp at this; omega
  obtain ⟨hc4, hf4⟩ := bthru hb4
  clear hb4
  unfold PRes.val
  go_wp2_with fail
  refine (lives_yes _ (tab_below HT.out (HB4.out.alloc HB4.out.size _))).mono ?_; rintro e w5 ⟨rfl, hb5⟩
  have HB5 : Hid (Below w.heap.size w w5) := hid (HB4.out.trans (((Below.refl _ w4).alloc HB4.out.size _).trans (hb5.mono (by have := HB4.out.size; simp; omega))))
  go_wp2_with fail
  go_ret
  exact ⟨rfl, HB5.out⟩
end Go.Proofs.YtgfgbihcapkikaaDoor
