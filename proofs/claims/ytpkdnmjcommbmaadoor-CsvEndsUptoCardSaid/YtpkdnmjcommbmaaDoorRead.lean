/- The reader of csv, its first part: what a quoted field reads as. -/
import Derived.Test.YtpkdnmjcommbmaaDoorBuf
import Derived.Test.YtpkdnmjcommbmaaDoorWide
import Derived.Test.YtpkdnmjcommbmaaDoorPlain
namespace Go.Proofs.YtpkdnmjcommbmaaDoor
open Go.RowKit Go.Shelf

/-- The reader in block R. -/
def RdAt (R : Nat) (s : ByteArray) (a : Int) (sep : Int) (bad : Int) (w : World) : Prop :=
  w.heap[R]? = some (.cells #[.string s, .int .i64 a, .int .u8 sep, .int .i64 bad] 50 (0, 0))
theorem RdAt.cells {R : Nat} {s : ByteArray} {a sep bad : Int} {w : World} (h : RdAt R s a sep bad w) :
    (w.cell? ⟨R, 0, none⟩ = some (.string s) ∧ w.cell? ⟨R, 1, none⟩ = some (.int .i64 a) ∧ w.cell? ⟨R, 2, none⟩ = some (.int .u8 sep) ∧ w.cell? ⟨R, 3, none⟩ = some (.int .i64 bad)) ∧
    w.frozen? ⟨R, 1, none⟩ = false ∧ w.frozen? ⟨R, 3, none⟩ = false :=
  ⟨⟨by rw [Lib.cell_of_heap h]; rfl, by rw [Lib.cell_of_heap h]; rfl, by rw [Lib.cell_of_heap h]; rfl, by rw [Lib.cell_of_heap h]; rfl⟩, Lib.frozen_of_heap h 1, Lib.frozen_of_heap h 3⟩
theorem RdAt.lt {R : Nat} {s : ByteArray} {a sep bad : Int} {w : World} (h : RdAt R s a sep bad w) : R < w.heap.size := (Array.getElem?_eq_some_iff.1 h).1
/-- All blocks but R are as they were; new ones may be there. -/
structure Keep (R : Nat) (w w' : World) : Prop where
  os : w'.os = w.os
  tape : w'.tape = w.tape
  output : w'.output = w.output
  size : w.heap.size ≤ w'.heap.size
  block : ∀ k, k < w.heap.size → k ≠ R → w'.heap[k]? = w.heap[k]?
theorem Keep.refl (R : Nat) (w : World) : Keep R w w := ⟨rfl, rfl, rfl, Nat.le_refl _, fun _ _ _ => rfl⟩
theorem Keep.trans {R : Nat} {a b c : World} (h : Keep R a b) (k : Keep R b c) : Keep R a c :=
  ⟨k.os.trans h.os, k.tape.trans h.tape, k.output.trans h.output, Nat.le_trans h.size k.size, fun i hi hn => (k.block i (Nat.lt_of_lt_of_le hi h.size) hn).trans (h.block i hi hn)⟩
theorem Keep.of_below {R : Nat} {w w' : World} (h : Below w.heap.size w w') : Keep R w w' := ⟨h.os, h.tape, h.output, h.size, fun k hk _ => h.block k hk⟩
theorem Keep.below {R : Nat} {a w w' : World} {n : Nat} (h : Keep R w w') (hb : Below n a w) (hn : n ≤ R) (hs : n ≤ w.heap.size) : Below n a w' :=
  hb.trans ⟨h.os, h.tape, h.output, h.size, fun k hk => h.block k (by omega) (by omega)⟩
theorem Keep.setCell {R : Nat} {w w' : World} (h : Keep R w w') (o : Nat) (v : Value) : Keep R w (w'.setCell ⟨R, o, none⟩ v) :=
  h.trans ⟨rfl, rfl, rfl, by simp [World.setCell], fun k _ hk => Below.heap_setCell _ _ _ _ hk⟩
theorem Keep.thenBelow {R n : Nat} {w a b : World} (h : Keep R w a) (hb : Below n a b) (hn : w.heap.size ≤ n) : Keep R w b :=
  ⟨hb.os.trans h.os, hb.tape.trans h.tape, hb.output.trans h.output, Nat.le_trans h.size hb.size, fun k hk hr => (hb.block k (by omega)).trans (h.block k hk hr)⟩
theorem Keep.drewN {R : Nat} {w a : World} (h : Keep R w a) (n : Nat) : Keep R w (a.drewN n) := ⟨h.os, h.tape, h.output, h.size, h.block⟩
theorem Keep.cell {R : Nat} {w w' : World} (h : Keep R w w') {b o : Nat} (hb : b < w.heap.size) (hn : b ≠ R) {v : Value} (hc : w.cell? ⟨b, o, none⟩ = some v) : w'.cell? ⟨b, o, none⟩ = some v :=
  (World.cell?_of_block (w := w) (a := ⟨b, o, none⟩) (h.block b hb hn)).trans hc
theorem RdAt.setAt {R : Nat} {s : ByteArray} {a sep bad : Int} {w : World} (h : RdAt R s a sep bad w) (x : Int) : RdAt R s x sep bad (w.setCell ⟨R, 1, none⟩ (.int .i64 x)) := by
  unfold RdAt at *
  simp only [World.setCell, Array.getElem?_modify, if_true]
  rw [h]; rfl
theorem RdAt.setBad {R : Nat} {s : ByteArray} {a sep bad : Int} {w : World} (h : RdAt R s a sep bad w) (x : Int) : RdAt R s a sep x (w.setCell ⟨R, 3, none⟩ (.int .i64 x)) := by
  unfold RdAt at *
  simp only [World.setCell, Array.getElem?_modify, if_true]
  rw [h]; rfl
theorem RdAt.below {R n : Nat} {s : ByteArray} {a sep bad : Int} {w w' : World} (h : RdAt R s a sep bad w) (hb : Below n w w') (hn : R < n) : RdAt R s a sep bad w' :=
  (hb.block R hn).trans h

set_option maxHeartbeats 400000 in
theorem wrong_any (R : Nat) (s : ByteArray) (a sep bad x : Int) (w : World) (h : RdAt R s a sep bad w) :
    Calls Tryd.prog 28 #[.pointer (some ⟨R, 0, none⟩), .int .i64 x] w fun e w' => e = .returned (.string ⟨#[]⟩) ∧ RdAt R s a sep x w' ∧ Keep R w w' := by
  obtain ⟨⟨_, _, _, hc⟩, _, hf⟩ := h.cells
  go_enter Tryd.func28, Tryd.ntmps28
  go_wp2
  go_ret
  exact ⟨rfl, h.setBad x, (Keep.refl R w).setCell 3 _⟩

theorem extract_list (s : ByteArray) (a : Nat) : s.extract a s.size = ⟨(s.data.toList.drop a).toArray⟩ := by
  have h := Lib.extract_to_end s a
  rw [← h]

theorem tail_ext (c : UInt8) (z : List UInt8) : ByteArray.extract ⟨(c :: z).toArray⟩ 1 (z.length + 1) = ⟨z.toArray⟩ := by
  have h := extract_list ⟨(c :: z).toArray⟩ 1
  have h2 : (⟨(c :: z).toArray⟩ : ByteArray).size = z.length + 1 := by show (c :: z).toArray.size = _; simp
  rw [h2] at h
  rw [h]; simp

set_option maxHeartbeats 400000 in
theorem cut_none (l : List UInt8) (c : UInt8) (w : World) (m : Int) (hl : l.length < 4294967281) (hm : w.cell? ⟨0, 0, none⟩ = some (.int .i64 m)) (h : split1 c l = none) :
    Calls Tryd.prog 37 #[.string ⟨l.toArray⟩, .string ⟨#[c]⟩] w fun e w' => e = .returned (.tuple #[.string ⟨l.toArray⟩, .string ⟨#[]⟩, .bool false]) ∧ ∃ n, w' = w.drewN n := by
  refine (Tryd.strings_Cut ⟨l.toArray⟩ ⟨#[c]⟩ m w (by show l.toArray.size < _; simpa using hl) hm).mono ?_
  have := cut1 c l
  rw [h] at this
  simp only [this]
  exact fun e w' h => h
theorem cut_some (l a b : List UInt8) (c : UInt8) (w : World) (m : Int) (hl : l.length < 4294967281) (hm : w.cell? ⟨0, 0, none⟩ = some (.int .i64 m)) (h : split1 c l = some (a, b)) :
    Calls Tryd.prog 37 #[.string ⟨l.toArray⟩, .string ⟨#[c]⟩] w fun e w' => e = .returned (.tuple #[.string ⟨a.toArray⟩, .string ⟨b.toArray⟩, .bool true]) ∧ ∃ n, w' = w.drewN n := by
  refine (Tryd.strings_Cut ⟨l.toArray⟩ ⟨#[c]⟩ m w (by show l.toArray.size < _; simpa using hl) hm).mono ?_
  have := cut1 c l
  rw [h] at this
  simp only [this]
  exact fun e w' h => h

theorem hasPrefix_any (l p : List UInt8) (b : Bool) (h : Lib.hasPrefix l p = b) (w : World) :
    Calls Tryd.prog 25 #[.string ⟨l.toArray⟩, .string ⟨p.toArray⟩] w fun e w' => e = .returned (.bool b) ∧ w = w' := by
  refine (Tryd.strings_HasPrefix ⟨l.toArray⟩ ⟨p.toArray⟩ w).mono ?_
  rintro e w' ⟨rfl, rfl⟩
  exact ⟨by simp [h], rfl⟩
theorem hasPrefix_q (l p : List UInt8) (b : Bool) (h : Lib.hasPrefix l p = b) (w : World) :
    Calls Tryd.prog 25 #[.string ⟨l.toArray⟩, .string ⟨p.toArray⟩] w fun e w' => e = .returned (.bool b) ∧ w' = w :=
  (hasPrefix_any l p b h w).mono fun _ _ h => ⟨h.1, h.2.symm⟩
/-- The length of a string in a slot. -/
def strLen : Value → Nat | .string s => s.size | _ => 0
/-- What quoted answers: the field, and how many bytes are left; or the place behind all. -/
def quotedPost (R : Nat) (s : ByteArray) (a : Nat) (sep bad : Int) (r : Option (List UInt8 × List UInt8)) (w : World) (e : Ending) (w' : World) : Prop :=
  match r with
  | none => e = .returned (.string ⟨#[]⟩) ∧ RdAt R s a sep s.size w' ∧ Keep R w w'
  | some (f, rest) => e = .returned (.string ⟨f.toArray⟩) ∧ RdAt R s (s.size - rest.length) sep bad w' ∧ Keep R w w'

set_option maxHeartbeats 1000000 in
theorem quoted_any (R : Nat) (s : ByteArray) (a : Nat) (sep bad m : Int) (w : World) (h : RdAt R s a sep bad w) (ha : a < s.size) (hs : s.size < 4294967281) (hm : w.cell? ⟨0, 0, none⟩ = some (.int .i64 m)) (hR : 0 < R) :
    Calls Tryd.prog 26 #[.pointer (some ⟨R, 0, none⟩)] w (quotedPost R s a sep bad (quotedL (s.size + 1) (s.data.toList.drop (a + 1))) w) := by
  obtain ⟨⟨hc0, hc1, hc2, hc3⟩, hf1, hf3⟩ := h.cells
  have hlt := h.lt
  have H := hid h
  clear h
  have hsz : (s.data.toList.drop (a + 1)).length ≤ s.size := by simp
  have hex := extract_list s (a + 1)
  generalize hl0 : s.data.toList.drop (a + 1) = l0 at *
  have HL0 := hid hl0
  clear hl0
  generalize hN : s.size + 1 = N at *
  have HN := hid hN
  clear hN
  generalize hres : quotedL N l0 = res
  have HRES := hid hres
  clear hres
  go_enter Tryd.func26, Tryd.ntmps26
  go_wp2
  go_quiet (fail)
  clear hex
  go_wp2
  have hb0 : Lib.IsBuilderF 39 5 w.heap.size w.heap.size (Lib.byteCells []) ((w.alloc (.cells #[.pointer none, .slice none 0 0] 39)).drewN nq) := Lib.IsBuilderF.of (Lib.fresh_isBuilder 39 5 w)
  have hbl0 : Below w.heap.size w ((w.alloc (.cells #[.pointer none, .slice none 0 0] 39)).drewN nq) := ⟨rfl, rfl, rfl, by simp, fun k hk => Below.heap_alloc _ _ _ hk⟩
  have hwz : w.heap.size < ((w.alloc (.cells #[.pointer none, .slice none 0 0] 39)).drewN nq).heap.size := by simp
  generalize hW : (w.alloc (.cells #[.pointer none, .slice none 0 0] 39)).drewN nq = W at *
  clear hW
  go_loopw [4] (fun v wr => ∃ (acc rest : List UInt8), v = .string ⟨rest.toArray⟩ ∧ Lib.IsBuilderF 39 5 w.heap.size w.heap.size (Lib.byteCells acc) wr ∧ Below w.heap.size w wr ∧ w.heap.size < wr.heap.size ∧
      Hid (res = (quotedL N rest).map fun p => (acc ++ p.1, p.2)) ∧ acc.length + rest.length ≤ l0.length ∧ rest.length < N ∧ Hid (∃ q, l0 = q ++ rest)) (fun v _ => strLen v)
  case atStart =>
    exact ⟨[], l0, rfl, hb0, hbl0, hwz, by unfold Hid; rw [HRES.out]; simp, by simp, by have := HN.out; omega, ⟨[], rfl⟩⟩
  case round =>
    obtain ⟨acc, rest, rfl, hB, hbl, hz, HQ, hlen, hrN, HS⟩ := hrel
    have hm' := bcell hbl (by omega) hm
    have hA := H.out.below hbl hlt
    obtain ⟨⟨gc0, gc1, gc2, gc3⟩, gf1, gf3⟩ := hA.cells
    have HA := hid hA
    clear hA
    cases hsp : split1 34 rest with
    | none =>
      have HSP := hid hsp
      clear hsp
      go_wp2_with fail
      refine (cut_none _ _ _ m (by omega) hm' HSP.out).mono ?_
      rintro e w1 ⟨rfl, n1, rfl⟩
      go_wp2_with fail
      refine (wrong_any R s a sep bad _ (wr.drewN n1) HA.out).mono ?_
      rintro e w1 ⟨rfl, hA1, hk1⟩
      go_wp2_with fail
      go_ret
      have hN' : res = none := by rw [HQ.out, quotedL_none HSP.out]; rfl
      rw [hN']
      exact ⟨rfl, hA1, Keep.trans (b := wr.drewN n1) (Keep.of_below (bdrew hbl _)) hk1⟩
    | some p =>
      obtain ⟨x, y⟩ := p
      have HSP := hid hsp
      have hyl := split1_len hsp
      have hyl2 : x.length + y.length + 1 = rest.length := by rw [hyl]; simp; omega
      have HYL := hid hyl
      clear hsp hyl
      go_wp2_with fail
      refine (cut_some _ x y _ _ m (by omega) hm' HSP.out).mono ?_
      rintro e w1 ⟨rfl, n1, rfl⟩
      go_wp2_with fail
      refine (writeString_any w.heap.size w.heap.size (Lib.byteCells acc) ⟨x.toArray⟩ (wr.drewN n1) hB (by rw [Lib.byteCells_length]; show _ + x.toArray.size ≤ _; simp; omega) (by simp; omega)).mono ?_
      rintro e w1 ⟨rfl, hB1, hb1, _⟩
      have hA1 := RdAt.below (w := wr.drewN n1) HA.out hb1 (by omega)
      obtain ⟨⟨kc0, kc1, kc2, kc3⟩, kf1, kf3⟩ := hA1.cells
      have HA1 := hid hA1
      clear hA1
      have hbl1 : Below w.heap.size w w1 := (bdrew hbl _).trans hb1
      have hz1 : w.heap.size < w1.heap.size := by have := hb1.size; simp at this; omega
      by_cases hq : ∃ z, y = 34 :: z
      · obtain ⟨z, rfl⟩ := hq
        go_wp2_with fail
        refine (hasPrefix_any (34 :: z) [34] true (by simp [Lib.hasPrefix]) w1).mono ?_
        rintro e w' ⟨rfl, rfl⟩
        go_wp2_with fail
        refine (writeByte_any w.heap.size w.heap.size (Lib.byteCells acc ++ Lib.strCells ⟨x.toArray⟩) 34 w1 (.inr hB1) (by rw [bytes_app, Lib.byteCells_length]; simp; omega) (by omega)).mono ?_
        rintro e w2 ⟨rfl, hB2, hb2, _⟩
        go_wp2_with fail
        go_roundw
        case rel =>
          refine ⟨acc ++ x ++ [34], z, by rw [tail_ext], .inr ?_, hbl1.trans hb2, by have := hb2.size; omega, ?_, by simp at hyl2 ⊢; omega, by simp at hyl2; omega, ?_⟩
          · rw [bytes_app] at hB2
            have := bytes_snoc (acc ++ x) 34
            rw [← this]; exact hB2
          · unfold Hid; rw [HQ.out, quotedL_two HSP.out hrN]
            simp [Option.map_map, Function.comp_def]
          · obtain ⟨q, hq⟩ := HS.out
            exact ⟨q ++ x ++ [34, 34], by rw [hq, HYL.out]; simp⟩
        case measure =>
          rw [tail_ext]
          show z.toArray.size < rest.toArray.size
          simp at hyl2 ⊢; omega
      · go_wp2_with fail
        refine (hasPrefix_any y [34] false (prefix_no hq) w1).mono ?_
        rintro e w' ⟨rfl, rfl⟩
        go_wp2_with fail
        have hk1 : Keep R w1 (w1.setCell ⟨R, 1, none⟩ (.int .i64 (s.size - y.length))) := (Keep.refl R w1).setCell 1 _
        have hA2 := HA1.out.setAt (s.size - y.length)
        have hB2 : Lib.IsBuilderF 39 5 w.heap.size w.heap.size (Lib.byteCells (acc ++ x)) (w1.setCell ⟨R, 1, none⟩ (.int .i64 (s.size - y.length))) := by
          rw [← bytes_app]
          exact builder_above (.inr hB1) fun k hk => Below.heap_setCell _ _ _ _ (by simp; omega)
        refine (Tryd.Builder_String_any_f w.heap.size w.heap.size (acc ++ x) _ hB2 (by simp; omega)).mono ?_
        rintro e w3 ⟨rfl, _, hb3⟩
        go_wp2_with fail
        go_ret
        have hN' : res = some (acc ++ x, y) := by rw [HQ.out, quotedL_one HSP.out hq (by omega)]; rfl
        rw [hN']
        exact ⟨rfl, hA2.below hb3 hlt, ((Keep.of_below hbl1).trans hk1).thenBelow hb3 (Nat.le_refl _)⟩
end Go.Proofs.YtpkdnmjcommbmaaDoor
