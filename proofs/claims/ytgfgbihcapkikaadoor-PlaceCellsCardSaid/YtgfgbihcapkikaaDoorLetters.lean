/- place.Letters and the reference's: a column's letters. -/
import Derived.Test.YtgfgbihcapkikaaDoorColumn
import Derived.Handy
import Derived.Laws.BytesArg
namespace Go.Proofs.YtgfgbihcapkikaaDoor
open Go.RowKit

theorem strOf (xs : List Int) (l : List UInt8) (h : xs.map (fun n => UInt8.ofNat n.toNat) = l) : strOfNums xs = bas l := by
  subst h; apply ByteArray.ext; simp [strOfNums, bas]
theorem conv1 (w : World) (x y z : Int) (t : TypeId) : (convert 60 9 (.slice (some ⟨w.heap.size, 2, none⟩) 1 1)).run Tryd.prog (w.alloc (.cells #[.int .u8 x, .int .u8 y, .int .u8 z] t)) = .ok (.string (strOfNums [z])) (w.alloc (.cells #[.int .u8 x, .int .u8 y, .int .u8 z] t)) :=
  run_convert_bytes_arg _ 60 5 Tryd.underlying60 Tryd.underlying5 w.heap.size 2 1 1 [z] rfl (fun i hi => by
    obtain rfl : i = 0 := by omega
    rw [World.cell?_alloc_at _ _ _ _ rfl]; rfl) 9 Tryd.underlying9
theorem conv2 (w : World) (x y z : Int) (t : TypeId) : (convert 60 9 (.slice (some ⟨w.heap.size, 1, none⟩) 2 2)).run Tryd.prog (w.alloc (.cells #[.int .u8 x, .int .u8 y, .int .u8 z] t)) = .ok (.string (strOfNums [y, z])) (w.alloc (.cells #[.int .u8 x, .int .u8 y, .int .u8 z] t)) :=
  run_convert_bytes_arg _ 60 5 Tryd.underlying60 Tryd.underlying5 w.heap.size 1 2 2 [y, z] rfl (fun i hi => by
    rw [World.cell?_alloc_at _ _ _ _ rfl]
    match i, hi with
    | 0, _ => rfl
    | 1, _ => rfl) 9 Tryd.underlying9
theorem conv3 (w : World) (x y z : Int) (t : TypeId) : (convert 60 9 (.slice (some ⟨w.heap.size, 0, none⟩) 3 3)).run Tryd.prog (w.alloc (.cells #[.int .u8 x, .int .u8 y, .int .u8 z] t)) = .ok (.string (strOfNums [x, y, z])) (w.alloc (.cells #[.int .u8 x, .int .u8 y, .int .u8 z] t)) :=
  run_convert_bytes_arg _ 60 5 Tryd.underlying60 Tryd.underlying5 w.heap.size 0 3 3 [x, y, z] rfl (fun i hi => by
    rw [World.cell?_alloc_at _ _ _ _ rfl]
    match i, hi with
    | 0, _ => rfl
    | 1, _ => rfl
    | 2, _ => rfl) 9 Tryd.underlying9
theorem conv0 (w : World) (x : Int) (t : TypeId) (g : Nat) (hg : w.heap.size = g) : (convert 60 9 (.slice (some ⟨g, 0, none⟩) 1 1)).run Tryd.prog (w.alloc (.cells #[.int .u8 x] t)) = .ok (.string (strOfNums [x])) (w.alloc (.cells #[.int .u8 x] t)) :=
  run_convert_bytes_arg _ 60 5 Tryd.underlying60 Tryd.underlying5 g 0 1 1 [x] rfl (fun i hi => by
    obtain rfl : i = 0 := by omega
    subst hg
    rw [World.cell?_alloc_at _ _ _ _ rfl]; rfl) 9 Tryd.underlying9

def ltr (c : Nat) : List UInt8 :=
  if c ≤ 26 then [UInt8.ofNat (64 + c)]
  else if c ≤ 702 then [UInt8.ofNat (64 + (c - 1) / 26), UInt8.ofNat (65 + (c - 1) % 26)]
  else [UInt8.ofNat (64 + ((c - 1) / 26 - 1) / 26), UInt8.ofNat (65 + ((c - 1) / 26 - 1) % 26), UInt8.ofNat (65 + (c - 1) % 26)]
def lettersL (c : Int) : List UInt8 × Nat := if c < 1 ∨ 16384 < c then ([], 2) else (ltr c.toNat, 0)
def LetPost (c : Int) (e : Ending) : Prop := e = .returned (.tuple #[.string (bas (lettersL c).1), .int .i64 ((lettersL c).2 : Int)])
theorem letPost_mk {c : Nat} {s : ByteArray} (h1 : 1 ≤ c) (h2 : c ≤ 16384) (h : s = bas (ltr c)) : LetPost c (.returned (.tuple #[.string s, .int .i64 0])) := by
  unfold LetPost lettersL
  rw [if_neg (by omega), h]
  rfl
theorem letPost_out {c : Int} (h1 : c < 1 ∨ 16384 < c) : LetPost c (.returned (.tuple #[.string ⟨#[]⟩, .int .i64 2])) := by
  unfold LetPost lettersL
  rw [if_pos h1]
  rfl
theorem ofNat_eq {a b : Nat} (h : a = b) : UInt8.ofNat a = UInt8.ofNat b := by rw [h]

set_option maxHeartbeats 1000000 in
theorem letters_1 (c : Nat) (w : World) (h1 : 1 ≤ c) (h2 : c ≤ 26) : Calls Tryd.prog 10 #[.int .i64 c] w fun e w' => LetPost c e ∧ Below w.heap.size w w' := by
  have kc := fun x y z t => conv1 w x y z t
  go_enter Tryd.func10, Tryd.ntmps10
  go_wp2_with fail
  refine wp_loop_rounds 2 ?_
  rw [rounds_succ]
  go_wp2_with fail
  rw [rounds_succ]
  go_wp2_with fail
  go_ret2
  refine ⟨letPost_mk h1 (by omega) (strOf _ _ ?_), (Below.refl _ _).alloc (Nat.le_refl _) _⟩
  simp only [List.map, ltr, if_pos h2, List.cons.injEq, and_true]
  exact ofNat_eq (by omega)
set_option maxHeartbeats 1000000 in
theorem letters_2 (c : Nat) (w : World) (h1 : 26 < c) (h2 : c ≤ 702) : Calls Tryd.prog 10 #[.int .i64 c] w fun e w' => LetPost c e ∧ Below w.heap.size w w' := by
  have kc := fun x y z t => conv2 w x y z t
  go_enter Tryd.func10, Tryd.ntmps10
  go_wp2_with fail
  refine wp_loop_rounds 3 ?_
  rw [rounds_succ]
  go_wp2_with fail
  rw [rounds_succ]
  go_wp2_with fail
  rw [rounds_succ]
  go_wp2_with fail
  go_ret2
  refine ⟨letPost_mk (by omega) (by omega) (strOf _ _ ?_), (Below.refl _ _).alloc (Nat.le_refl _) _⟩
  simp only [List.map, ltr, if_neg (show ¬ c ≤ 26 by omega), if_pos h2, List.cons.injEq, and_true]
  exact ⟨ofNat_eq (by omega), ofNat_eq (by omega)⟩
set_option maxHeartbeats 1000000 in
theorem letters_3 (c : Nat) (w : World) (h1 : 702 < c) (h2 : c ≤ 16384) : Calls Tryd.prog 10 #[.int .i64 c] w fun e w' => LetPost c e ∧ Below w.heap.size w w' := by
  have kc := fun x y z t => conv3 w x y z t
  go_enter Tryd.func10, Tryd.ntmps10
  go_wp2_with fail
  refine wp_loop_rounds 4 ?_
  rw [rounds_succ]
  go_wp2_with fail
  rw [rounds_succ]
  go_wp2_with fail
  rw [rounds_succ]
  go_wp2_with fail
  rw [rounds_succ]
  go_wp2_with fail
  go_ret2
  refine ⟨letPost_mk (by omega) (by omega) (strOf _ _ ?_), (Below.refl _ _).alloc (Nat.le_refl _) _⟩
  simp only [List.map, ltr, if_neg (show ¬ c ≤ 26 by omega), if_neg (show ¬ c ≤ 702 by omega), List.cons.injEq, and_true]
  exact ⟨ofNat_eq (by omega), ofNat_eq (by omega), ofNat_eq (by omega)⟩
theorem letters_out (c : Int) (w : World) (h : c < 1 ∨ 16384 < c) : Calls Tryd.prog 10 #[.int .i64 c] w fun e w' => LetPost c e ∧ Below w.heap.size w w' := by
  rcases h with h1 | h1
  · go_enter Tryd.func10, Tryd.ntmps10
    go_wp2_with fail
    go_ret2
    exact ⟨letPost_out (.inl h1), Below.refl _ _⟩
  · go_enter Tryd.func10, Tryd.ntmps10
    go_wp2_with fail
    go_ret2
    exact ⟨letPost_out (.inr h1), Below.refl _ _⟩
theorem letters_any (c : Int) (w : World) : Calls Tryd.prog 10 #[.int .i64 c] w fun e w' => LetPost c e ∧ Below w.heap.size w w' := by
  by_cases h : c < 1 ∨ 16384 < c
  · exact letters_out c w h
  · obtain ⟨n, rfl⟩ : ∃ n : Nat, c = (n : Int) := ⟨c.toNat, by omega⟩
    by_cases h1 : n ≤ 26
    · exact letters_1 n w (by omega) h1
    · by_cases h2 : n ≤ 702
      · exact letters_2 n w (by omega) h2
      · exact letters_3 n w (by omega) (by omega)
theorem refLetters_out (c : Int) (w : World) (h : c < 1 ∨ 16384 < c) : Calls Tryd.prog 15 #[.int .i64 c] w fun e w' => LetPost c e ∧ Below w.heap.size w w' := by
  rcases h with h1 | h1
  · go_enter Tryd.func15, Tryd.ntmps15
    go_wp2_with fail
    go_ret2
    exact ⟨letPost_out (.inl h1), Below.refl _ _⟩
  · go_enter Tryd.func15, Tryd.ntmps15
    go_wp2_with fail
    go_ret2
    exact ⟨letPost_out (.inr h1), Below.refl _ _⟩
theorem bas_app (l m : List UInt8) : bas l ++ bas m = bas (l ++ m) := by
  apply ByteArray.ext; simp [bas]
theorem strOf_nil (xs : List Int) (l : List UInt8) (h : xs.map (fun n => UInt8.ofNat n.toNat) = l) : strOfNums xs ++ ⟨#[]⟩ = bas l := by
  rw [strOf xs l h]; show bas l ++ bas [] = bas l; rw [bas_app, List.append_nil]
set_option maxHeartbeats 2000000 in
theorem refLetters_1 (c : Nat) (w : World) (h1 : 1 ≤ c) (h2 : c ≤ 26) : Calls Tryd.prog 15 #[.int .i64 c] w fun e w' => LetPost c e ∧ Below w.heap.size w w' := by
  have kc := fun w x t g hg => conv0 w x t g hg
  go_enter Tryd.func15, Tryd.ntmps15
  go_wp2_with fail
  refine wp_loop_rounds 1 ?_
  rw [rounds_succ]
  go_wp2_with fail
  refine wp_loop_rounds 2 ?_
  rw [rounds_succ]
  go_wp2_with fail
  rw [rounds_succ]
  go_wp2_with fail
  go_ret2
  refine ⟨letPost_mk (by omega) (by omega) (strOf_nil _ _ ?_), (Below.refl _ _).alloc (Nat.le_refl _) _⟩
  simp only [List.map, ltr, if_pos h2, List.cons.injEq, and_true]
  exact ofNat_eq (by omega)
set_option maxHeartbeats 2000000 in
theorem refLetters_2 (c : Nat) (w : World) (h1 : 26 < c) (h2 : c ≤ 702) : Calls Tryd.prog 15 #[.int .i64 c] w fun e w' => LetPost c e ∧ Below w.heap.size w w' := by
  have kc := fun w x t g hg => conv0 w x t g hg
  go_enter Tryd.func15, Tryd.ntmps15
  go_wp2_with fail
  refine wp_loop_rounds 2 ?_
  rw [rounds_succ]
  go_wp2_with fail
  rw [rounds_succ]
  go_wp2_with fail
  refine wp_loop_rounds 3 ?_
  rw [rounds_succ]
  go_wp2_with fail
  rw [rounds_succ]
  go_wp2_with fail
  rw [rounds_succ]
  go_wp2_with fail
  go_ret2
  refine ⟨letPost_mk (by omega) (by omega) ?_, ((Below.refl _ _).alloc (Nat.le_refl _) _).alloc (by simp) _⟩
  rw [strOf_nil _ _ rfl, strOf _ _ rfl, bas_app]
  simp only [List.map, ltr, if_neg (show ¬ c ≤ 26 by omega), if_pos h2, List.cons_append, List.nil_append]
  congr 1
  simp only [List.cons.injEq, and_true]
  exact ⟨ofNat_eq (by omega), ofNat_eq (by omega)⟩
set_option maxHeartbeats 2000000 in
theorem refLetters_3 (c : Nat) (w : World) (h1 : 702 < c) (h2 : c ≤ 16384) : Calls Tryd.prog 15 #[.int .i64 c] w fun e w' => LetPost c e ∧ Below w.heap.size w w' := by
  have kc := fun w x t g hg => conv0 w x t g hg
  go_enter Tryd.func15, Tryd.ntmps15
  go_wp2_with fail
  refine wp_loop_rounds 3 ?_
  rw [rounds_succ]
  go_wp2_with fail
  rw [rounds_succ]
  go_wp2_with fail
  rw [rounds_succ]
  go_wp2_with fail
  refine wp_loop_rounds 4 ?_
  rw [rounds_succ]
  go_wp2_with fail
  rw [rounds_succ]
  go_wp2_with fail
  rw [rounds_succ]
  go_wp2_with fail
  rw [rounds_succ]
  go_wp2_with fail
  go_ret2
  refine ⟨letPost_mk (by omega) (by omega) ?_, (((Below.refl _ _).alloc (Nat.le_refl _) _).alloc (by simp) _).alloc (by simp; omega) _⟩
  rw [strOf_nil _ _ rfl, strOf _ _ rfl, strOf _ _ rfl, bas_app, bas_app]
  simp only [List.map, ltr, if_neg (show ¬ c ≤ 26 by omega), if_neg (show ¬ c ≤ 702 by omega), List.cons_append, List.nil_append]
  congr 1
  simp only [List.cons.injEq, and_true]
  exact ⟨ofNat_eq (by omega), ofNat_eq (by omega), ofNat_eq (by omega)⟩
theorem refLetters_any (c : Int) (w : World) : Calls Tryd.prog 15 #[.int .i64 c] w fun e w' => LetPost c e ∧ Below w.heap.size w w' := by
  by_cases h : c < 1 ∨ 16384 < c
  · exact refLetters_out c w h
  · obtain ⟨n, rfl⟩ : ∃ n : Nat, c = (n : Int) := ⟨c.toNat, by omega⟩
    by_cases h1 : n ≤ 26
    · exact refLetters_1 n w (by omega) h1
    · by_cases h2 : n ≤ 702
      · exact refLetters_2 n w (by omega) h2
      · exact refLetters_3 n w (by omega) (by omega)
end Go.Proofs.YtgfgbihcapkikaaDoor
