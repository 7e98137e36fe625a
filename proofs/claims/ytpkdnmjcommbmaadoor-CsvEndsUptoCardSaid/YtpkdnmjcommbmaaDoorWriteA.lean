/- csv.Write where it writes rows without quotes and ends. -/
import Derived.Test.YtpkdnmjcommbmaaDoorWrite
namespace Go.Proofs.YtpkdnmjcommbmaaDoor
open Go.RowKit Go.Shelf

/-- A field as it is written, if it has neither quotes nor ends. -/
def fieldW (sep : UInt8) (alone : Bool) (f : List UInt8) : List UInt8 := if (alone && f.isEmpty) || f.contains sep then 34 :: (f ++ [34]) else f
def rowP (sep : UInt8) (alone : Bool) : List (List UInt8) → List UInt8
  | [] => []
  | f :: r => fieldW sep alone f ++ r.flatMap fun g => sep :: fieldW sep alone g
def rowW (sep : UInt8) (row : List (List UInt8)) : List UInt8 := rowP sep (row.length == 1) row ++ [10]
def writeL (sep : UInt8) (rows : List (List (List UInt8))) : List UInt8 := rows.flatMap (rowW sep)
theorem rowP_snoc (sep : UInt8) (alone : Bool) (l : List (List UInt8)) (f : List UInt8) : rowP sep alone (l ++ [f]) = rowP sep alone l ++ (if l = [] then [] else [sep]) ++ fieldW sep alone f := by
  cases l with
  | nil => simp [rowP]
  | cons g r => simp [rowP, List.flatMap_append]
theorem writeL_snoc (sep : UInt8) (l : List (List (List UInt8))) (r : List (List UInt8)) : writeL sep (l ++ [r]) = writeL sep l ++ rowW sep r := by simp [writeL]

def clean (f : List UInt8) : Prop := 10 ∉ f ∧ 13 ∉ f ∧ 34 ∉ f

set_option maxHeartbeats 400000 in
theorem repl_absent (f : List UInt8) (m : Int) (w : World) (hf : f.length < 4294967281) (hm : w.cell? ⟨0, 0, none⟩ = some (.int .i64 m)) (hc : Lib.countB (bas f) ⟨#[34]⟩ = 0) :
    Calls Tryd.prog 14 #[.string (bas f), .string ⟨#[34]⟩, .string ⟨#[34, 34]⟩] w fun e w' => e = .returned (.string (bas f)) ∧ w = w' := by
  have HC := hid hc
  clear hc
  go_enter Tryd.func14, Tryd.ntmps14
  go_wp2_with fail
  refine (Tryd.strings_Replace_absent (bas f) ⟨#[34]⟩ ⟨#[34, 34]⟩ (-1) m w (by show f.toArray.size < _; simpa using hf) hm (by decide) (by decide) (by decide) HC.out).mono ?_
  rintro e w' ⟨rfl, rfl⟩
  go_wp2_with fail
  go_ret
  exact ⟨rfl, rfl⟩

theorem SliceV.get {top : Nat} {w : World} {a : Option Addr} {n cap : Nat} {vs : List Value} (h : SliceV top w (.slice a n cap) vs) {k : Nat} {x : Value} (hx : vs[k]? = some x) :
    ∃ b off, a = some ⟨b, off, none⟩ ∧ w.cell? ⟨b, off + k, none⟩ = some x := by
  rcases h with ⟨_, rfl⟩ | ⟨b, off, cap, h, _, hc⟩
  · simp at hx
  · injection h with h1 h2 h3
    exact ⟨b, off, h1, hc k x hx⟩
theorem some_lt {w : World} {k : Nat} {o : Obj} (h : w.heap[k]? = some o) : k < w.heap.size := by
  rcases Nat.lt_or_ge k w.heap.size with h' | h'
  · exact h'
  · simp [Array.getElem?_eq_none h'] at h
theorem ownsRowF_all {w w' : World} {B e size n : Nat} {v : Value} {xs : List Value} (h : w.ownsRowF B e size v n xs) (hk : Below w.heap.size w w') : w'.ownsRowF B e size v n xs := by
  obtain ⟨h1, h2⟩ := h
  refine ⟨h1, ?_⟩
  rcases h2 with h2 | ⟨g, cap, cur, fz, hv, hg, hh, r⟩
  · exact .inl h2
  · exact .inr ⟨g, cap, cur, fz, hv, hg, (hk.block g (some_lt hh)).trans hh, r⟩
theorem builder_all {w w' : World} {B b : Nat} {bs : List Value} (h : Lib.IsBuilderF 39 5 B b bs w) (hk : Below w.heap.size w w') : Lib.IsBuilderF 39 5 B b bs w' := by
  rcases h with ⟨hB, v, hb, ho, hn⟩ | ⟨hB, v, hb, ho, hn⟩
  · exact .inl ⟨hB, v, (hk.block b (some_lt hb)).trans hb, ownsRowF_all ho hk, hn⟩
  · exact .inr ⟨hB, v, (hk.block b (some_lt hb)).trans hb, ownsRowF_all ho hk, hn⟩
theorem rowP_len (sep : UInt8) (al : Bool) (r : List (List UInt8)) : r.length ≤ (rowP sep al r).length + 1 := by
  have h : ∀ l : List (List UInt8), l.length ≤ (l.flatMap fun g => sep :: fieldW sep al g).length := by
    intro l
    induction l with
    | nil => simp
    | cons x y ih => simp only [List.flatMap_cons, List.length_append, List.length_cons]; omega
  cases r with
  | nil => simp
  | cons x y => have := h y; simp only [rowP, List.length_append, List.length_cons]; omega
theorem fieldW_len (sep : UInt8) (al : Bool) (f : List UInt8) : f.length ≤ (fieldW sep al f).length := by unfold fieldW; split <;> simp; omega
theorem concat_q (f : List UInt8) : (⟨#[34]⟩ : ByteArray) ++ bas f ++ ⟨#[34]⟩ = bas (34 :: (f ++ [34])) := by
  apply ByteArray.ext
  simp [bas, ByteArray.data_append]
theorem clean_count (f : List UInt8) (h : clean f) : Lib.countB (bas f) ⟨#[34]⟩ = 0 := by
  apply Lib.countB_miss
  show Lib.index f [34] = -1
  rcases index1 34 f with ⟨_, h2⟩ | ⟨a, b, h1, _⟩
  · exact h2
  · have := split1_len h1
    exact absurd (by rw [this]; simp) h.2.2

set_option maxHeartbeats 4000000 in
theorem write_any (sep : UInt8) (rows : List (List (List UInt8))) (v : Value) (top : Nat) (m : Int) (w : World) (hv : RowsV top w v (rows.map fun r => r.map bas)) (ht : top ≤ w.heap.size)
    (hne : ∀ r ∈ rows, r ≠ []) (hsep : (((sep.toNat : Nat) : Int) != 0 && ((sep.toNat : Nat) : Int) != 10 && ((sep.toNat : Nat) : Int) != 13 && ((sep.toNat : Nat) : Int) != 34) = true) (hbig : bigR rows = false)
    (hcl : ∀ r ∈ rows, ∀ f ∈ r, clean f) (hlen : (writeL sep rows).length ≤ 1000000000) (hm : w.cell? ⟨0, 0, none⟩ = some (.int .i64 m)) (hw0 : 0 < w.heap.size)
    (hneeds : ∀ r ∈ rows, ∀ f ∈ r, ∀ W, Calls Tryd.prog 13 #[.string (bas f), .bool (((r.length : Nat) : Int) == 1), .int .u8 (sep.toNat : Int)] W fun e W' =>
      e = .returned (.bool (((((r.length : Nat) : Int) == 1) && f.isEmpty) || f.contains sep)) ∧ Below W.heap.size W W') :
    Calls Tryd.prog 6 #[v, .int .u8 (sep.toNat : Int)] w fun e w' => e = .returned (.tuple #[.string (bas (writeL sep rows)), .int .i64 0]) ∧ Below w.heap.size w w' := by
  have HV := hid hv
  have HC := hid hsep
  have HNE := hid hne
  have HBIG := hid hbig
  have HCL := hid hcl
  have HND := hid hneeds
  clear hsep hne hbig hcl hneeds
  obtain ⟨svs, h1, h2, h3⟩ := hv
  obtain ⟨aa, ca, rfl, hac⟩ := h1.at
  have hsl : svs.length = rows.length := by simpa using h2
  rw [hsl] at hac HV ⊢
  have HA := hid hac
  have H3 := hid h3
  have H1 : Hid (SliceV top w (.slice aa rows.length ca) svs) := hid (by rw [← hsl]; exact h1)
  have HSL := hid hsl
  clear hac h1 h2 h3 hsl
  have hrl : rows.length ≤ 1048576 := by have := HBIG.out; simp [bigR] at this; omega
  have hwd : widest (rows.map fun r => r.map bas) ≤ 16384 := by have := HBIG.out; simp [bigR] at this; omega
  have HWD := hid hwd
  clear hwd
  go_enter Tryd.func6, Tryd.ntmps6
  go_wp2_with fail
  refine (sep_any _ _).mono ?_
  rintro e w' ⟨rfl, rfl⟩
  rw [HC.out]
  go_wp2_with fail
  go_loop [18] (fun i => ∃ k : Nat, k ≤ rows.length ∧ i = .int .i64 k) (fun i => rows.length - (intOf i).toNat)
  case atStart => exact ⟨0, Nat.zero_le _, rfl⟩
  case round =>
    obtain ⟨k, hk, rfl⟩ := hrel
    by_cases hlt : k < rows.length
    · obtain ⟨b, off, rfl, hc⟩ := HA.out (by omega)
      obtain ⟨sv, hsv⟩ : ∃ sv, svs[k]? = some sv := ⟨_, getq (by have := HSL.out; omega)⟩
      obtain ⟨row, hrow⟩ : ∃ row, rows[k]? = some row := ⟨_, getq hlt⟩
      obtain ⟨a2, d2, rfl, _⟩ := (H3.out k sv (row.map bas) hsv (by simp [hrow])).at
      have hcell := hc k _ hsv
      simp only [strs, List.length_map] at hcell
      have hr0 : row.length ≠ 0 := by have := HNE.out row (List.mem_of_getElem? hrow); simpa using this
      have e0 : ((row.length : Int) == 0) = false := by rw [beq_eq_false_iff_ne]; omega
      clear hc hsv hrow
      go_wp2_with fail
      go_round
      case rel => exact ⟨k + 1, by omega, by go_num⟩
      case measure => simp [intOf]; omega
    · go_wp2_with fail
      generalize hwid : widest (rows.map fun r => r.map bas) = wd
      have hwd : wd ≤ 16384 := by rw [← hwid]; exact HWD.out
      have HWID := hid hwid
      clear hwid
      refine (wide_any top _ (rows.map fun r => r.map bas) w HV.out ht (by simp; omega)).mono ?_
      rw [HWID.out]
      rintro e w5 ⟨rfl, hb5⟩
      go_wp2_with fail
      have hb0 : Lib.IsBuilderF 39 5 w5.heap.size w5.heap.size (Lib.byteCells []) (w5.alloc (.cells #[.pointer none, .slice none 0 0] 39)) := Lib.IsBuilderF.of (Lib.fresh_isBuilder 39 5 w5)
      have hbl0 : Below w5.heap.size w5 (w5.alloc (.cells #[.pointer none, .slice none 0 0] 39)) := ⟨rfl, rfl, rfl, by simp, fun k hk => Below.heap_alloc _ _ _ hk⟩
      have hwz : w5.heap.size < (w5.alloc (.cells #[.pointer none, .slice none 0 0] 39)).heap.size := by simp
      generalize hW : w5.alloc (.cells #[.pointer none, .slice none 0 0] 39) = W at *
      clear hW
      have h5s := hb5.size
      have H15 := hid (H1.out.below hb5 ht)
      have H35 := hid (fun k sv row a b => (H3.out k sv row a b).below hb5 ht)
      have hm5 := bcell hb5 hw0 hm
      have HB0 := hid hb0
      clear hm hb0
      go_loopw [36] (fun i wr => ∃ k : Nat, k ≤ rows.length ∧ i = .int .i64 k ∧ Lib.IsBuilderF 39 5 w5.heap.size w5.heap.size (Lib.byteCells (writeL sep (rows.take k))) wr ∧ Below w5.heap.size w5 wr ∧ w5.heap.size < wr.heap.size) (fun i _ => rows.length - (intOf i).toNat)
      case atStart => exact ⟨0, Nat.zero_le _, rfl, HB0.out, hbl0, hwz⟩
      case round =>
        obtain ⟨k, hk, rfl, hB, hbl, hz⟩ := hrel
        by_cases hlt : k < rows.length
        · obtain ⟨sv, hsv⟩ : ∃ sv, svs[k]? = some sv := ⟨_, getq (by have := HSL.out; omega)⟩
          obtain ⟨row, hrow⟩ : ∃ row, rows[k]? = some row := ⟨_, getq hlt⟩
          have hmem := List.mem_of_getElem? hrow
          have hsl2 := H35.out k sv (row.map bas) hsv (by simp [hrow])
          have hll : (strs (row.map bas)).length = row.length := by simp [strs]
          obtain ⟨a2, d2, he, _⟩ := hsl2.at
          rw [hll] at he
          subst he
          clear hll
          obtain ⟨b, off, rfl, hcell⟩ := (H15.out.below hbl (by omega)).get hsv
          have HMEM := hid hmem
          have HROW := hid hrow
          have HSL2 := hid hsl2
          clear hmem hrow hsl2 hsv
          have hwr : (writeL sep (rows.take k)).length + (rowW sep row).length ≤ 1000000000 := by
            have h1 : writeL sep rows = writeL sep (rows.take k ++ [row] ++ rows.drop (k+1)) := by
              congr 1
              have := List.getElem?_eq_some_iff.1 HROW.out
              obtain ⟨h1, h2⟩ := this
              subst h2
              simp
            have h2 : (writeL sep rows).length = (writeL sep (rows.take k)).length + (rowW sep row).length + (writeL sep (rows.drop (k+1))).length := by
              rw [h1]; simp [writeL]; omega
            omega
          generalize hac0 : writeL sep (rows.take k) = acc0 at *
          have HAC := hid hac0
          clear hac0
          generalize hal : (((row.length : Nat) : Int) == 1) = al at *
          have HAL := hid hal
          have hrw : rowW sep row = rowP sep al row ++ [10] := by
            have h0 : (row.length == 1) = al := by
              rw [← hal]
              by_cases h1 : row.length = 1
              · rw [h1]; rfl
              · rw [beq_eq_false_iff_ne.2 h1]; symm; rw [beq_eq_false_iff_ne]; omega
            unfold rowW
            rw [h0]
          rw [hrw] at hwr
          have hrl2 : row.length ≤ 1000000000 := by
            have := rowP_len sep al row
            simp only [List.length_append, List.length_cons] at hwr
            omega
          have HRW := hid hrw
          clear hrw
          go_wp2_with fail
          go_loopw [42] (fun i wi => ∃ j : Nat, j ≤ row.length ∧ i = .int .i64 j ∧ Lib.IsBuilderF 39 5 w5.heap.size w5.heap.size (Lib.byteCells (acc0 ++ rowP sep al (row.take j))) wi ∧ Below w5.heap.size w5 wi ∧ w5.heap.size < wi.heap.size) (fun i _ => row.length - (intOf i).toNat)
          case atStart => exact ⟨0, Nat.zero_le _, rfl, by rw [List.take_zero]; unfold rowP; rw [List.append_nil]; exact hB, hbl, hz⟩
          case round =>
            clear hbl hz hB
            obtain ⟨j, hj, rfl, hB, hbl, hz⟩ := hrel
            by_cases hjl : j < row.length
            · obtain ⟨f, hf⟩ : ∃ f, row[j]? = some f := ⟨_, getq hjl⟩
              obtain ⟨b2, o2, rfl, hcell2⟩ := (HSL2.out.below hbl (by omega)).get (k := j) (x := .string (bas f)) (by simp [strs, hf])
              have hfm := HCL.out row HMEM.out f (List.mem_of_getElem? hf)
              have hnd := HND.out row HMEM.out f (List.mem_of_getElem? hf)
              rw [HAL.out] at hnd
              have hstep : rowP sep al (row.take (j + 1)) = rowP sep al (row.take j) ++ (if j = 0 then [] else [sep]) ++ fieldW sep al f := by
                rw [List.take_add_one, hf]
                show rowP sep al (row.take j ++ [f]) = _
                rw [rowP_snoc]
                congr 2
                by_cases h0 : j = 0
                · simp [h0]
                · rw [if_neg h0, if_neg]
                  intro h1
                  have := congrArg List.length h1
                  rw [List.length_take] at this
                  simp only [List.length_nil] at this
                  omega
              have hfl : (acc0 ++ rowP sep al (row.take j)).length + 1 + (fieldW sep al f).length ≤ 1000000001 := by
                have h1 : (rowP sep al row).length = (rowP sep al (row.take (j+1))).length + ((row.drop (j+1)).flatMap fun g => sep :: fieldW sep al g).length := by
                  have h2 : row = row.take (j+1) ++ row.drop (j+1) := (List.take_append_drop _ _).symm
                  conv => lhs; rw [h2]
                  have h3 : row.take (j+1) ≠ [] := by
                    intro h1
                    have := congrArg List.length h1
                    rw [List.length_take] at this
                    simp only [List.length_nil] at this
                    omega
                  cases h4 : row.take (j+1) with
                  | nil => exact absurd h4 h3
                  | cons x y => simp [rowP, List.flatMap_append]; omega
                rw [hstep] at h1
                simp only [List.length_append, List.length_cons, List.length_nil] at hwr h1 ⊢
                omega
              have hfl2 := fieldW_len sep al f
              have hbs : (bas f).size ≤ 1000000000 := by show f.toArray.size ≤ _; rw [List.size_toArray]; omega
              generalize hac1 : rowP sep al (row.take j) = acc1 at *
              have HAC1 := hid hac1
              have HST := hid hstep
              clear hac1 hstep
              have HFM := hid hfm
              have HF := hid hf
              clear hf hfm
              have key : ∀ (wi : World) (acc2 : List UInt8), Lib.IsBuilderF 39 5 w5.heap.size w5.heap.size (Lib.byteCells acc2) wi → Below w5.heap.size w5 wi → w5.heap.size < wi.heap.size → True := fun _ _ _ _ _ => trivial
              clear key
              by_cases hj0 : j = 0
              · have HST2 := hid (by have := HST.out; rw [if_pos hj0, List.append_nil] at this; exact this)
                subst hj0
                rw [Nat.add_zero] at hcell2
                go_wp2_with fail
                refine (hnd wr).mono ?_
                generalize hndr : (al && f.isEmpty || f.contains sep) = nd
                rintro e w3 ⟨rfl, hb3⟩
                have hbl3 := hbl.trans (hb3.mono (Nat.le_of_lt hz))
                have hB3 := builder_all (w' := w3) (hB) hb3
                have hm3 := bcell hbl3 (by omega) hm5
                have hz3 : w5.heap.size < w3.heap.size := by have := hb3.size; omega
                cases nd
                · have HFW := hid (show fieldW sep al f = f by unfold fieldW; rw [hndr]; rfl)
                  clear hndr
                  go_wp2_with fail
                  refine (writeString_any w5.heap.size w5.heap.size _ (bas f) w3 hB3 (by rw [Lib.byteCells_length, List.length_append]; show _ + f.toArray.size ≤ _; simp only [List.size_toArray]; simp only [List.length_append] at hfl; omega) (by omega)).mono ?_
                  rintro e w4 ⟨rfl, hB4, hb4, _⟩
                  go_wp2_with fail
                  go_roundw
                  case rel =>
                    refine ⟨0 + 1, by omega, by go_num, .inr ?_, hbl3.trans hb4, by have := hb4.size; omega⟩
                    have h1 := bytes_app (acc0 ++ acc1) f
                    rw [HST2.out, HFW.out, ← List.append_assoc, ← h1]
                    exact hB4
                  case measure => simp [intOf]; omega
                · have HFW := hid (show fieldW sep al f = 34 :: (f ++ [34]) by unfold fieldW; rw [hndr]; rfl)
                  clear hndr
                  go_wp2_with fail
                  refine (repl_absent f m w3 (by omega) hm3 (clean_count f HFM.out)).mono ?_
                  rintro e w' ⟨rfl, rfl⟩
                  go_wp2_with fail
                  rw [concat_q]
                  refine (writeString_any w5.heap.size w5.heap.size _ (bas (34 :: (f ++ [34]))) w3 hB3 (by rw [Lib.byteCells_length, List.length_append]; show _ + (34 :: (f ++ [34])).toArray.size ≤ _; simp only [List.length_cons, List.length_nil, List.size_toArray, List.length_append]; simp only [List.length_append] at hfl; omega) (by omega)).mono ?_
                  rintro e w4 ⟨rfl, hB4, hb4, _⟩
                  go_wp2_with fail
                  go_roundw
                  case rel =>
                    refine ⟨0 + 1, by omega, by go_num, .inr ?_, hbl3.trans hb4, by have := hb4.size; omega⟩
                    have h1 := bytes_app (acc0 ++ acc1) (34 :: (f ++ [34]))
                    rw [HST2.out, HFW.out, ← List.append_assoc, ← h1]
                    exact hB4
                  case measure => simp [intOf]; omega
              · go_wp2_with fail
                refine (writeByte_any w5.heap.size w5.heap.size _ (sep.toNat : Int) wr hB (by rw [Lib.byteCells_length]; omega) (by omega)).mono ?_
                rintro e w2 ⟨rfl, hB2, hb2, _⟩
                rw [bytes_snoc] at hB2
                have hz2 : w5.heap.size < w2.heap.size := by have := hb2.size; omega
                have hbl2 := hbl.trans hb2
                have HST2 := hid (by have := HST.out; rw [if_neg hj0] at this; exact this)
                go_wp2_with fail
                refine (hnd w2).mono ?_
                generalize hndr : (al && f.isEmpty || f.contains sep) = nd
                rintro e w3 ⟨rfl, hb3⟩
                have hbl3 := hbl2.trans (hb3.mono (Nat.le_of_lt hz2))
                have hB3 := builder_all (w' := w3) (.inr hB2) hb3
                have hm3 := bcell hbl3 (by omega) hm5
                have hz3 : w5.heap.size < w3.heap.size := by have := hb3.size; omega
                cases nd
                · have HFW := hid (show fieldW sep al f = f by unfold fieldW; rw [hndr]; rfl)
                  clear hndr
                  go_wp2_with fail
                  refine (writeString_any w5.heap.size w5.heap.size _ (bas f) w3 hB3 (by rw [Lib.byteCells_length, List.length_append]; show _ + f.toArray.size ≤ _; simp only [List.length_cons, List.length_nil, List.size_toArray]; omega) (by omega)).mono ?_
                  rintro e w4 ⟨rfl, hB4, hb4, _⟩
                  go_wp2_with fail
                  go_roundw
                  case rel =>
                    refine ⟨j + 1, by omega, by go_num, .inr ?_, hbl3.trans hb4, by have := hb4.size; omega⟩
                    have h1 := bytes_app (acc0 ++ acc1 ++ [sep]) f
                    rw [HST2.out, HFW.out, ← List.append_assoc, ← List.append_assoc, ← h1]
                    exact hB4
                  case measure => simp [intOf]; omega
                · have HFW := hid (show fieldW sep al f = 34 :: (f ++ [34]) by unfold fieldW; rw [hndr]; rfl)
                  clear hndr
                  go_wp2_with fail
                  refine (repl_absent f m w3 (by omega) hm3 (clean_count f HFM.out)).mono ?_
                  rintro e w' ⟨rfl, rfl⟩
                  go_wp2_with fail
                  rw [concat_q]
                  refine (writeString_any w5.heap.size w5.heap.size _ (bas (34 :: (f ++ [34]))) w3 hB3 (by rw [Lib.byteCells_length, List.length_append]; show _ + (34 :: (f ++ [34])).toArray.size ≤ _; simp only [List.length_cons, List.length_nil, List.size_toArray, List.length_append]; simp only [List.length_append] at hfl; omega) (by omega)).mono ?_
                  rintro e w4 ⟨rfl, hB4, hb4, _⟩
                  go_wp2_with fail
                  go_roundw
                  case rel =>
                    refine ⟨j + 1, by omega, by go_num, .inr ?_, hbl3.trans hb4, by have := hb4.size; omega⟩
                    have h1 := bytes_app (acc0 ++ acc1 ++ [sep]) (34 :: (f ++ [34]))
                    rw [HST2.out, HFW.out, ← List.append_assoc, ← List.append_assoc, ← h1]
                    exact hB4
                  case measure => simp [intOf]; omega
            · have hjr : j = row.length := by omega
              subst hjr
              rw [List.take_length] at hB
              go_wp2_with fail
              refine (writeByte_any w5.heap.size w5.heap.size _ 10 wr hB (by rw [Lib.byteCells_length]; simp at hwr ⊢; omega) (by omega)).mono ?_
              rintro e w2 ⟨rfl, hB2, hb2, _⟩
              go_wp2_with fail
              go_roundw
              case rel =>
                refine ⟨k + 1, by omega, by go_num, ?_, hbl.trans hb2, by have := hb2.size; omega⟩
                refine .inr ?_
                have h1 := bytes_snoc (acc0 ++ rowP sep al row) 10
                rw [show writeL sep (rows.take (k + 1)) = acc0 ++ rowP sep al row ++ [10] from ?_]
                · rw [← h1]; exact hB2
                · rw [List.take_add_one, HROW.out]
                  show writeL sep (rows.take k ++ [row]) = _
                  rw [writeL_snoc, HAC.out, HRW.out, List.append_assoc]
              case measure => simp [intOf]; omega
        · have hkr : k = rows.length := by omega
          subst hkr
          rw [List.take_length] at hB
          go_wp2_with fail
          refine (Tryd.Builder_String_any_f w5.heap.size w5.heap.size _ wr hB (by omega)).mono ?_
          rintro e w3 ⟨rfl, _, hb3⟩
          go_wp2_with fail
          go_ret2
          exact ⟨rfl, (hb5.trans (hbl.mono h5s)).trans (hb3.mono h5s)⟩
end Go.Proofs.YtpkdnmjcommbmaaDoor
