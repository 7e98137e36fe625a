/- The examples: what lives answers. -/
import Derived.Test.YtpkdnmjcommbmaaDoorWriteA
namespace Go.Proofs.YtpkdnmjcommbmaaDoor
open Go.RowKit Go.Shelf

theorem needs_empty (c : Int) (W : World) : Calls Tryd.prog 13 #[.string (bas []), .bool true, .int .u8 c] W fun e W' => e = .returned (.bool true) ∧ Below W.heap.size W W' := by
  have hE : (bas []).toList.isEmpty = true := by kernel_rfl
  generalize bas [] = z at *
  go_enter Tryd.func13, Tryd.ntmps13
  go_wp2_with fail
  go_ret
  exact ⟨rfl, Below.refl _ _⟩

theorem Cells.new (w : World) (vs : List Value) (t : TypeId) : Cells (w.alloc (.cells vs.toArray t)) w.heap.size 0 vs := by
  intro i x hx
  rw [World.cell?_alloc_at _ _ _ _ rfl]
  simpa using hx
theorem Cells.past {w : World} {b off : Nat} {vs : List Value} (h : Cells w b off vs) (hb : b < w.heap.size) (o : Obj) : Cells (w.alloc o) b off vs := by
  intro i x hx
  rw [World.cell?_alloc_past _ _ _ hb]
  exact h i x hx
theorem SliceV.top {t1 t2 : Nat} {w : World} {v : Value} {vs : List Value} (h : SliceV t1 w v vs) (ht : t1 ≤ t2) : SliceV t2 w v vs := by
  rcases h with h | ⟨b, off, cap, rfl, hb, hc⟩
  · exact .inl h
  · exact .inr ⟨b, off, cap, rfl, by omega, hc⟩
theorem RowsV.top {t1 t2 : Nat} {w : World} {v : Value} {rows : List (List ByteArray)} (h : RowsV t1 w v rows) (ht : t1 ≤ t2) : RowsV t2 w v rows := by
  obtain ⟨svs, h1, h2, h3⟩ := h
  exact ⟨svs, h1.top ht, h2, fun i sv row a b => (h3 i sv row a b).top ht⟩
theorem RowsV.one {top : Nat} {w : World} {v1 : Value} {b off cap : Nat} {r1 : List ByteArray} (hb : b < top) (hc : Cells w b off [v1]) (h1 : SliceV top w v1 (strs r1)) : RowsV top w (.slice (some ⟨b, off, none⟩) 1 cap) [r1] := by
  refine ⟨[v1], .inr ⟨b, off, cap, rfl, hb, hc⟩, rfl, ?_⟩
  intro i sv row ha hb
  match i, ha, hb with
  | 0, ha, hb => simp at ha hb; subst ha; subst hb; exact h1
theorem RowsV.two {top : Nat} {w : World} {v1 v2 : Value} {b off cap : Nat} {r1 r2 : List ByteArray} (hb : b < top) (hc : Cells w b off [v1, v2]) (h1 : SliceV top w v1 (strs r1)) (h2 : SliceV top w v2 (strs r2)) : RowsV top w (.slice (some ⟨b, off, none⟩) 2 cap) [r1, r2] := by
  refine ⟨[v1, v2], .inr ⟨b, off, cap, rfl, hb, hc⟩, rfl, ?_⟩
  intro i sv row ha hb
  match i, ha, hb with
  | 0, ha, hb => simp at ha hb; subst ha; subst hb; exact h1
  | 1, ha, hb => simp at ha hb; subst ha; subst hb; exact h2

def t1 : List UInt8 := [97, 44, 34, 98, 32, 34, 34, 99, 34, 34, 34, 10, 100]
def r1 : List (List (List UInt8)) := [[[97], [98, 32, 34, 99, 34]], [[100]]]
theorem rows_t1 : rowsL 14 44 14 t1 = (r1, none) := by kernel_rfl
theorem rows_t2 : rowsL 4 44 4 [97, 13, 10] = ([[[97]]], none) := by kernel_rfl
theorem rows_t3 : rowsL 3 44 3 [34, 97] = ([], some 0) := by kernel_rfl
theorem rows_t4 : rowsL 4 44 4 [97, 34, 98] = ([], some 2) := by kernel_rfl
theorem rows_t5 : rowsL 5 44 5 [34, 97, 34, 98] = ([], some 1) := by kernel_rfl
theorem rows_t6 : rowsL 4 44 4 [97, 13, 98] = ([], some 2) := by kernel_rfl

theorem read_rows (l : List UInt8) (rows : List (List (List UInt8))) (m : Int) (w : World) (hm : w.cell? ⟨0, 0, none⟩ = some (.int .i64 m)) (hl : l.length < 4294967281) (h : rowsL (l.length + 1) 44 (l.length + 1) l = (rows, none)) (hb : bigR rows = false) :
    Calls Tryd.prog 7 #[.string (bas l), .int .u8 44] w fun e w' => ∃ v, e = .returned (.tuple #[v, .int .i64 0, .int .i64 0]) ∧ RowsV w'.heap.size w' v (rows.map fun r => r.map bas) ∧ Below w.heap.size w w' := by
  refine (read_any (bas l) 44 m w (by show l.toArray.size < _; simpa using hl) hm (by decide)).mono ?_
  intro e w' h1
  have hsz : (bas l).size = l.length := by show l.toArray.size = _; simp
  have hdt : (bas l).data.toList = l := by show l.toArray.toList = l; simp
  rw [hsz, hdt, h] at h1
  obtain ⟨hb1, h2⟩ := h1
  simp only [hb] at h2
  obtain ⟨v, h3, h4⟩ := h2
  exact ⟨v, h3, h4, hb1⟩

theorem read_bad (l : List UInt8) (q : Nat) (m : Int) (w : World) (hm : w.cell? ⟨0, 0, none⟩ = some (.int .i64 m)) (hl : l.length < 4294967281) (h : rowsL (l.length + 1) 44 (l.length + 1) l = ([], some q)) :
    Calls Tryd.prog 7 #[.string (bas l), .int .u8 44] w fun e w' => e = .returned (.tuple #[.slice none 0 0, .int .i64 ((l.length : Int) - q), .int .i64 13]) ∧ Below w.heap.size w w' := by
  refine (read_any (bas l) 44 m w (by show l.toArray.size < _; simpa using hl) hm (by decide)).mono ?_
  intro e w' h1
  have hsz : (bas l).size = l.length := by show l.toArray.size = _; simp
  have hdt : (bas l).data.toList = l := by show l.toArray.toList = l; simp
  rw [hsz, hdt, h] at h1
  obtain ⟨hb1, h2⟩ := h1
  exact ⟨by rw [h2, hsz], hb1⟩

set_option maxHeartbeats 1000000 in
theorem is_yes (l : List UInt8) (q : Nat) (i m : Int) (w : World) (hm : w.cell? ⟨0, 0, none⟩ = some (.int .i64 m)) (hl : l.length < 4294967281) (h : rowsL (l.length + 1) 44 (l.length + 1) l = ([], some q)) (hi : (l.length : Int) - q = i) :
    Calls Tryd.prog 9 #[.string (bas l), .int .i64 i] w fun e w' => e = .returned (.bool true) ∧ Below w.heap.size w w' := by
  have HR := hid (read_bad l q m w hm hl h)
  rw [hi] at HR
  clear h hm hi
  go_enter Tryd.func9, Tryd.ntmps9
  go_wp2_with fail
  refine HR.out.mono ?_
  rintro e w' ⟨rfl, hb⟩
  go_wp2_with fail
  go_ret
  refine ⟨ret_bool ?_, hb⟩
  simp

set_option maxHeartbeats 4000000 in
theorem lives_yes (m : Int) (w : World) (hm : w.cell? ⟨0, 0, none⟩ = some (.int .i64 m)) (h0 : 0 < w.heap.size) :
    Calls Tryd.prog 5 #[] w fun e w' => e = .returned (.bool true) ∧ Below w.heap.size w w' := by
  go_enter Tryd.func5, Tryd.ntmps5
  go_wp2_with fail
  refine (read_rows t1 r1 m w hm (by decide) rows_t1 (by decide)).mono ?_
  rintro e w1 ⟨v1, rfl, hr1, hb1⟩
  have hm1 := bcell hb1 h0 hm
  go_wp2_with fail
  refine (read_rows [97, 13, 10] [[[97]]] m w1 hm1 (by decide) rows_t2 (by decide)).mono ?_
  rintro e w2 ⟨v2, rfl, hr2, hb2⟩
  have hs1 := hb1.size
  have hm2 := bcell hb2 (by omega) hm1
  have HR1 := hid hr1
  have HR2 := hid hr2
  clear hr1 hr2
  go_wp2_with fail
  have hs2 := hb2.size
  generalize hW : (w2.alloc (Obj.cells #[Value.string { data := #[] }] 9)).alloc (Obj.cells #[Value.slice (some { block := w2.heap.size, off := 0 }) 1 1] 23) = W
  have hbW : Below w2.heap.size w2 W := by
    rw [← hW]
    exact ((Below.refl _ w2).alloc (Nat.le_refl _) _).alloc (by simp) _
  have hmW := bcell hbW (by omega) hm2
  have hsW : W.heap.size = w2.heap.size + 2 := by rw [← hW]; simp
  have hrW : RowsV W.heap.size W (.slice (some ⟨w2.heap.size + 1, 0, none⟩) 1 1) ([[([] : List UInt8)]].map fun r => r.map bas) := by
    rw [hsW, ← hW]
    have hA := Cells.new w2 [.string ⟨#[]⟩] 9
    have hB := Cells.new (w2.alloc (.cells #[.string ⟨#[]⟩] 9)) [.slice (some ⟨w2.heap.size, 0, none⟩) 1 1] 23
    have hz : (w2.alloc (.cells #[.string ⟨#[]⟩] 9)).heap.size = w2.heap.size + 1 := by simp
    rw [hz] at hB
    exact RowsV.one (by omega) hB (.inr ⟨_, 0, 1, rfl, by omega, hA.past (by rw [hz]; omega) _⟩)
  clear hW
  refine (write_any 44 [[[]]] _ W.heap.size m W hrW (Nat.le_refl _) (by decide) (by decide) (by decide) (by simp [clean]) (by decide) hmW (by omega) ?_).mono ?_
  · intro r hr f hf W'
    simp at hr; subst hr; simp at hf; subst hf
    exact needs_empty _ W'
  rintro e w3 ⟨rfl, hb3⟩
  have hs3 := hb3.size
  rw [show bas (writeL 44 [[[]]]) = ⟨#[34, 34, 10]⟩ from rfl]
  go_wp2_with fail
  have hW2s : ∀ A B C, (((w3.alloc A).alloc B).alloc C).heap.size = w3.heap.size + 3 := by intros; simp
  generalize hW : (((w3.alloc (Obj.cells #[Value.string { data := #[97] }, Value.string { data := #[98, 32, 34, 99, 34] }] 9)).alloc
        (Obj.cells #[Value.string { data := #[100] }] 9)).alloc
    (Obj.cells
      #[Value.slice (some { block := w3.heap.size, off := 0 }) 2 2,
        Value.slice (some { block := w3.heap.size + 1, off := 0 }) 1 1]
      23)) = W2
  have hsW2 : W2.heap.size = w3.heap.size + 3 := by rw [← hW]; exact hW2s _ _ _
  have hbW2 : Below w3.heap.size w3 W2 := by
    rw [← hW]
    exact (((Below.refl _ w3).alloc (Nat.le_refl _) _).alloc (by simp) _).alloc (by simp; omega) _
  have hrW2 : RowsV W2.heap.size W2 (.slice (some ⟨w3.heap.size + 1 + 1, 0, none⟩) 2 2) (r1.map fun r => r.map bas) := by
    rw [hsW2, ← hW]
    have hA := Cells.new w3 [.string ⟨#[97]⟩, .string ⟨#[98, 32, 34, 99, 34]⟩] 9
    generalize hwa : w3.alloc (.cells #[.string ⟨#[97]⟩, .string ⟨#[98, 32, 34, 99, 34]⟩] 9) = wa at *
    have hza : wa.heap.size = w3.heap.size + 1 := by rw [← hwa]; simp
    have hB := Cells.new wa [.string ⟨#[100]⟩] 9
    have hA2 := hA.past (w := wa) (by omega) (.cells #[.string ⟨#[100]⟩] 9)
    generalize hwb : wa.alloc (.cells #[.string ⟨#[100]⟩] 9) = wb at *
    have hzb : wb.heap.size = w3.heap.size + 1 + 1 := by rw [← hwb]; simp; omega
    have hC := Cells.new wb [.slice (some ⟨w3.heap.size, 0, none⟩) 2 2, .slice (some ⟨w3.heap.size + 1, 0, none⟩) 1 1] 23
    rw [hza] at hB
    rw [hzb] at hC
    exact RowsV.two (by omega) hC (.inr ⟨_, 0, 2, rfl, by omega, hA2.past (by omega) _⟩) (.inr ⟨_, 0, 1, rfl, by omega, hB.past (by omega) _⟩)
  clear hW hW2s
  have hb14 : Below w1.heap.size w1 W2 := ((hb2.trans (hbW.mono hs2)).trans (hb3.mono (by omega))).trans (hbW2.mono (by omega))
  have hb24 : Below w2.heap.size w2 W2 := (hbW.trans (hb3.mono (by omega))).trans (hbW2.mono (by omega))
  have hm4 := bcell hb24 (by omega) hm2
  refine (same_yes W2.heap.size _ _ (r1.map fun r => r.map bas) W2 ((HR1.out.below hb14 (Nat.le_refl _)).top (by omega)) hrW2 (by decide) (by decide)).mono ?_
  rintro e w5 ⟨rfl, n, rfl⟩
  have HSW := hid hsW2
  clear hsW2 hrW2 hsW hrW
  have hz5 : (W2.drewN n).heap.size = W2.heap.size := rfl
  have hb25 := bdrew hb24 n
  have hm5 : (W2.drewN n).cell? ⟨0, 0, none⟩ = some (.int .i64 m) := hm4
  have hb05 : Below w.heap.size w (W2.drewN n) := bdrew ((hb1.trans (hb14.mono hs1))) n
  generalize hW5 : W2.drewN n = w5 at *
  have hs5 := hz5
  have HZ5 := hid hz5
  clear hz5 hW5 hs5
  go_wp2_with fail
  generalize hW : ((w5.alloc (Obj.cells #[Value.string { data := #[97] }] 9)).alloc
    (Obj.cells #[Value.slice (some { block := w5.heap.size, off := 0 }) 1 1] 23)) = W6
  have hsW6 : W6.heap.size = w5.heap.size + 2 := by rw [← hW]; simp
  have hbW6 : Below w5.heap.size w5 W6 := by
    rw [← hW]
    exact ((Below.refl _ w5).alloc (Nat.le_refl _) _).alloc (by simp) _
  have hrW6 : RowsV W6.heap.size W6 (.slice (some ⟨w5.heap.size + 1, 0, none⟩) 1 1) ([[([97] : List UInt8)]].map fun r => r.map bas) := by
    rw [hsW6, ← hW]
    have hA := Cells.new w5 [.string ⟨#[97]⟩] 9
    generalize hwa : w5.alloc (.cells #[.string ⟨#[97]⟩] 9) = wa at *
    have hza : wa.heap.size = w5.heap.size + 1 := by rw [← hwa]; simp
    have hB := Cells.new wa [.slice (some ⟨w5.heap.size, 0, none⟩) 1 1] 23
    rw [hza] at hB
    exact RowsV.one (by omega) hB (.inr ⟨_, 0, 1, rfl, by omega, hA.past (by omega) _⟩)
  clear hW
  have h25 : w2.heap.size ≤ w5.heap.size := hb25.size
  have h05 := hb05.size
  have hm6 := bcell hbW6 (by omega) hm5
  refine (same_yes W6.heap.size _ _ ([[([97] : List UInt8)]].map fun r => r.map bas) W6 ((HR2.out.below (hb25.trans (hbW6.mono h25)) (Nat.le_refl _)).top (by omega)) hrW6 (by decide) (by decide)).mono ?_
  rintro e w7 ⟨rfl, n7, rfl⟩
  have hm7 : (W6.drewN n7).cell? ⟨0, 0, none⟩ = some (.int .i64 m) := hm6
  have hb07 : Below w.heap.size w (W6.drewN n7) := bdrew (hb05.trans (hbW6.mono h05)) n7
  generalize hW7 : W6.drewN n7 = w7 at *
  clear hW7 hsW6 hrW6
  have h07 := hb07.size
  go_wp2_with fail
  refine (is_yes [34, 97] 0 2 m w7 hm7 (by decide) rows_t3 (by decide)).mono ?_
  rintro e w8 ⟨rfl, hb8⟩
  have hm8 := bcell hb8 (by omega) hm7
  have h8 := hb8.size
  go_wp2_with fail
  refine (is_yes [97, 34, 98] 2 1 m w8 hm8 (by decide) rows_t4 (by decide)).mono ?_
  rintro e w9 ⟨rfl, hb9⟩
  have hm9 := bcell hb9 (by omega) hm8
  have h9 := hb9.size
  go_wp2_with fail
  refine (is_yes [34, 97, 34, 98] 1 3 m w9 hm9 (by decide) rows_t5 (by decide)).mono ?_
  rintro e w10 ⟨rfl, hb10⟩
  have hm10 := bcell hb10 (by omega) hm9
  have h10 := hb10.size
  go_wp2_with fail
  refine (is_yes [97, 13, 98] 2 1 m w10 hm10 (by decide) rows_t6 (by decide)).mono ?_
  rintro e w11 ⟨rfl, hb11⟩
  go_wp2_with fail
  go_ret
  exact ⟨rfl, (((hb07.trans (hb8.mono (by omega))).trans (hb9.mono (by omega))).trans (hb10.mono (by omega))).trans (hb11.mono (by omega))⟩
end Go.Proofs.YtpkdnmjcommbmaaDoor
