/- csv.Read, whole: what it answers on every text. -/
import Derived.Test.YtpkdnmjcommbmaaDoorFlds
import Derived.Test.YtpkdnmjcommbmaaDoorRf
import Derived.Maps.AppendAt
namespace Go.Proofs.YtpkdnmjcommbmaaDoor
open Go.RowKit Go.Shelf
attribute [local go_sem] Oper.semAt_some
attribute [local simp, local go_sem] wide_fn

/-- How long the end of a row is. -/
def endL (l : List UInt8) : Option Nat :=
  if l = [] then some 0 else if Lib.hasPrefix l [10] then some 1 else if Lib.hasPrefix l [13, 10] then some 2 else none

def endPost (R : Nat) (s : ByteArray) (p : Nat) (sep bad : Int) (r : Option Nat) (w : World) (e : Ending) (w' : World) : Prop :=
  e = .returned (.tuple #[]) ∧ Keep R w w' ∧ match r with
    | some k => RdAt R s (p + k) sep bad w'
    | none => RdAt R s p sep p w'

set_option maxHeartbeats 1000000 in
theorem end_any (R : Nat) (s : ByteArray) (p : Nat) (sep bad : Int) (w : World) (h : RdAt R s p sep bad w) (hp : p ≤ s.size) (hs : s.size ≤ 140737488351232) :
    Calls Tryd.prog 18 #[.pointer (some ⟨R, 0, none⟩)] w (endPost R s p sep bad (endL (s.data.toList.drop p)) w) := by
  obtain ⟨⟨hc0, hc1, hc2, hc3⟩, hf1, hf3⟩ := h.cells
  have H := hid h
  clear h
  have hex := extract_list s p
  by_cases h0 : s.data.toList.drop p = []
  · have hE := hid (show endL (s.data.toList.drop p) = some 0 by simp [endL, h0])
    go_enter Tryd.func18, Tryd.ntmps18
    go_wp2
    go_quiet (fail)
    go_wp2_with fail
    go_end0
    rw [hE.out]
    refine ⟨rfl, (Keep.refl R w).drewN _, ?_⟩
    have := H.out
    show RdAt R s ((p : Int) + ((0 : Nat) : Int)) sep bad _
    rw [show (p : Int) + ((0 : Nat) : Int) = p by omega]; exact this
  · have h0' : (s.data.toList.drop p).isEmpty = false := by simpa using h0
    cases h1 : Lib.hasPrefix (s.data.toList.drop p) [10] with
    | true =>
      have hE := hid (show endL (s.data.toList.drop p) = some 1 by simp [endL, h0, h1])
      have H1 := hid h1
      clear h1 h0
      go_enter Tryd.func18, Tryd.ntmps18
      go_wp2
      go_quiet (fail)
      go_wp2_with fail
      refine (hasPrefix_any _ [10] true H1.out _).mono ?_
      rintro e w' ⟨rfl, rfl⟩
      go_wp2_with fail
      go_end0
      rw [hE.out]
      exact ⟨rfl, ((Keep.refl R w).drewN _).setCell 1 _, RdAt.setAt (w := w.drewN _) H.out _⟩
    | false =>
      cases h2 : Lib.hasPrefix (s.data.toList.drop p) [13, 10] with
      | true =>
        have hE := hid (show endL (s.data.toList.drop p) = some 2 by simp [endL, h0, h1, h2])
        have H1 := hid h1
        have H2 := hid h2
        clear h1 h0 h2
        go_enter Tryd.func18, Tryd.ntmps18
        go_wp2
        go_quiet (fail)
        go_wp2_with fail
        refine (hasPrefix_any _ [10] false H1.out _).mono ?_
        rintro e w' ⟨rfl, rfl⟩
        go_wp2_with fail
        refine (hasPrefix_any _ [13, 10] true H2.out _).mono ?_
        rintro e w' ⟨rfl, rfl⟩
        go_wp2_with fail
        go_end0
        rw [hE.out]
        exact ⟨rfl, ((Keep.refl R w).drewN _).setCell 1 _, RdAt.setAt (w := w.drewN _) H.out _⟩
      | false =>
        have hE := hid (show endL (s.data.toList.drop p) = none by simp [endL, h0, h1, h2])
        have H1 := hid h1
        have H2 := hid h2
        clear h1 h0 h2
        go_enter Tryd.func18, Tryd.ntmps18
        go_wp2
        go_quiet (fail)
        go_wp2_with fail
        refine (hasPrefix_any _ [10] false H1.out _).mono ?_
        rintro e w' ⟨rfl, rfl⟩
        go_wp2_with fail
        refine (hasPrefix_any _ [13, 10] false H2.out _).mono ?_
        rintro e w' ⟨rfl, rfl⟩
        go_wp2_with fail
        refine (wrong_any R s p sep bad p (w.drewN nq) H.out).mono ?_
        rintro e w1 ⟨rfl, hA1, hk1⟩
        go_wp2_with fail
        go_end0
        rw [hE.out]
        exact ⟨rfl, ((Keep.refl R w).drewN _).trans hk1, hA1⟩

set_option maxHeartbeats 400000 in
theorem fields_any (R : Nat) (w : World) : Calls Tryd.prog 17 #[.pointer (some ⟨R, 0, none⟩)] w fun e w' => e = .returned (.func (.func 24) #[] #[.pointer (some ⟨w.heap.size, 0, none⟩)]) ∧ w' = w.alloc (.cells #[.pointer (some ⟨R, 0, none⟩)] 48) := by
  have hmf : ∀ (fn : Fn) (first cap : Array Value) (w : World), (Instr.makeFunc fn first cap).run Tryd.prog w = .ok (.func fn first cap) w := fun _ _ _ _ => rfl
  go_enter Tryd.func17, Tryd.ntmps17
  go_wp2
  go_ret
  exact ⟨rfl, rfl⟩

def bas (l : List UInt8) : ByteArray := ⟨l.toArray⟩
/-- A row of fields, in a block of strings below top. -/
def Row9 (top : Nat) (w : World) (sv : Value) (row : List (List UInt8)) : Prop :=
  (sv = .slice none 0 0 ∧ row = []) ∨ ∃ g cap cur, sv = .slice (some ⟨g, 0, none⟩) row.length cap ∧ g < top ∧ w.heap[g]? = some (.cells cur 9 (0, 0)) ∧ cur.toList.take row.length = row.map fun l => Value.string (bas l)
theorem Row9.keep {top : Nat} {w w' : World} {sv : Value} {row : List (List UInt8)} (h : Row9 top w sv row) (hk : ∀ k cur, k < top → w.heap[k]? = some (.cells cur 9 (0, 0)) → w'.heap[k]? = w.heap[k]?) : Row9 top w' sv row := by
  rcases h with h | ⟨g, cap, cur, h1, h2, h3, h4⟩
  · exact .inl h
  · exact .inr ⟨g, cap, cur, h1, h2, (hk g cur h2 h3).trans h3, h4⟩
theorem Row9.mono {top top' : Nat} {w : World} {sv : Value} {row : List (List UInt8)} (h : Row9 top w sv row) (ht : top ≤ top') : Row9 top' w sv row := by
  rcases h with h | ⟨g, cap, cur, h1, h2, h3, h4⟩
  · exact .inl h
  · exact .inr ⟨g, cap, cur, h1, by omega, h3, h4⟩
theorem Row9.slice {top : Nat} {w : World} {sv : Value} {row : List (List UInt8)} (h : Row9 top w sv row) : SliceV top w sv (strs (row.map bas)) := by
  rcases h with ⟨rfl, rfl⟩ | ⟨g, cap, cur, rfl, h2, h3, h4⟩
  · exact .inl ⟨⟨_, _, rfl⟩, rfl⟩
  · refine .inr ⟨g, 0, cap, by simp [strs], h2, fun i x hx => ?_⟩
    rw [Nat.zero_add, Lib.cell_of_heap h3]
    have h5 : strs (row.map bas) = cur.toList.take row.length := by rw [h4]; simp [strs, Function.comp_def]
    rw [h5] at hx
    have := List.getElem?_take (l := cur.toList) (i := row.length) (j := i)
    rw [this] at hx
    split at hx
    · simpa using hx
    · cases hx
theorem ownsRow_keep {w w' : World} {B e size n : Nat} {v : Value} {xs : List Value} (h : w.ownsRow B e size v n xs) (hk : ∀ k, B ≤ k → k < w.heap.size → w'.heap[k]? = w.heap[k]?) : w'.ownsRow B e size v n xs := by
  obtain ⟨h1, h2⟩ := h
  refine ⟨h1, ?_⟩
  rcases h2 with h2 | ⟨g, cap, cur, hv, hg, hh, r⟩
  · exact .inl h2
  · exact .inr ⟨g, cap, cur, hv, hg, (hk g hg (Array.getElem?_eq_some_iff.1 hh).1).trans hh, r⟩
theorem ownsRow_other {w w' : World} {B e size n : Nat} {v : Value} {xs : List Value} (h : w.ownsRow B e size v n xs) (hk : ∀ (k : Nat) (cur : Array Value), w.heap[k]? = some (Obj.cells cur e (0, 0)) → w'.heap[k]? = w.heap[k]?) : w'.ownsRow B e size v n xs := by
  obtain ⟨h1, h2⟩ := h
  refine ⟨h1, ?_⟩
  rcases h2 with h2 | ⟨g, cap, cur, hv, hg, hh, r⟩
  · exact .inl h2
  · exact .inr ⟨g, cap, cur, hv, hg, (hk g cur hh).trans hh, r⟩
theorem Keep.trans' {R : Nat} {w a b : World} (h : Keep R w a) (hk : ∀ k, k < w.heap.size → b.heap[k]? = a.heap[k]?) (h1 : b.os = a.os) (h2 : b.tape = a.tape) (h3 : b.output = a.output) (h4 : a.heap.size ≤ b.heap.size) : Keep R w b :=
  ⟨h1.trans h.os, h2.trans h.tape, h3.trans h.output, Nat.le_trans h.size h4, fun k hk1 hk2 => (hk k hk1).trans (h.block k hk1 hk2)⟩
theorem own_ne {w : World} {B e size n : Nat} {v : Value} {xs : List Value} (h : w.ownsRow B e size v n xs) {k : Nat} {o : Obj} (hk : w.heap[k]? = some o) (ho : ∀ cur, o ≠ .cells cur e (0, 0)) : some k ≠ v.ownBlock := by
  intro he
  rcases h.2 with ⟨rfl, _⟩ | ⟨g, cap, cur, rfl, _, hh, _⟩
  · cases he
  · simp only [Value.ownBlock, Option.some.injEq] at he
    subst he
    rw [hh] at hk
    exact ho cur (Option.some.inj hk).symm
theorem app_block {wb w1 : World} {B e size n : Nat} {v : Value} {xs : List Value} {x : Obj} (h : wb.ownsRow B e size v n xs) (hg : (wb.alloc x).grownBy w1 v.ownBlock) {k : Nat} {o : Obj} (hk : wb.heap[k]? = some o) (ho : ∀ cur, o ≠ .cells cur e (0, 0)) : w1.heap[k]? = some o := by
  have hlt := (Array.getElem?_eq_some_iff.1 hk).1
  have h6 : (wb.alloc x).heap[k]? = some o := (Below.heap_alloc _ _ _ hlt).trans hk
  exact (hg.block k (by simp; omega) (own_ne (h.alloc x) h6 ho)).trans h6
theorem app_cell {wb w1 : World} {B e size n : Nat} {v : Value} {xs : List Value} {x : Obj} (h : wb.ownsRow B e size v n xs) (hg : (wb.alloc x).grownBy w1 v.ownBlock) {k t : Nat} {u : Value} (hk : wb.heap[k]? = some (.cells #[u] t (0, 0))) (ht : t ≠ e) :
    w1.cell? ⟨k, 0, none⟩ = some u ∧ w1.frozen? ⟨k, 0, none⟩ = false := by
  have h1 := app_block h hg hk (fun cur he => ht (by cases he; rfl))
  exact ⟨by rw [Lib.cell_of_heap h1]; rfl, Lib.frozen_of_heap h1 0⟩
theorem set_one {w : World} {b t : Nat} {v : Value} {fz : Nat × Nat} (h : w.heap[b]? = some (.cells #[v] t fz)) (x : Value) : (w.setCell ⟨b, 0, none⟩ x).heap[b]? = some (.cells #[x] t fz) := by
  simp only [World.setCell, Array.getElem?_modify, if_true]
  rw [h]; rfl
theorem own_ge {w : World} {B e size n : Nat} {v : Value} {xs : List Value} (h : w.ownsRow B e size v n xs) {k : Nat} (hk : k < B) : some k ≠ v.ownBlock := by
  intro he
  rcases h.2 with ⟨rfl, _⟩ | ⟨g, cap, cur, rfl, hg, _⟩
  · cases he
  · simp only [Value.ownBlock, Option.some.injEq] at he; omega
theorem infoStr : (Tryd.prog.info? 9).map (fun i => (i.zero, i.size, i.bytes)) = some (some (.string ⟨#[]⟩), 1, 16) := by kernel_rfl
theorem infoRow : (Tryd.prog.info? 23).map (fun i => (i.zero, i.size, i.bytes)) = some (some (.slice none 0 0), 1, 24) := by kernel_rfl
/-- The rows that have been read. -/
def RowsOwn (base : Nat) (w : World) (v : Value) (rows : List (List (List UInt8))) : Prop :=
  ∃ svs : List Value, w.ownsRow base 23 1 v svs.length svs ∧ svs.length = rows.length ∧ ∀ (i : Nat) (sv : Value) (row : List (List UInt8)), svs[i]? = some sv → rows[i]? = some row → Row9 w.heap.size w sv row

/-- All rows of a text; or at which length of the rest it is broken. -/
def rowsL (N : Nat) (sep : UInt8) : Nat → List UInt8 → List (List (List UInt8)) × Option Nat
  | 0, _ => ([], none)
  | n + 1, l =>
    if l = [] then ([], none)
    else if (rowL N sep l).2.1 then ([], some (rowL N sep l).2.2.length)
    else match endL (rowL N sep l).2.2 with
      | none => ([], some (rowL N sep l).2.2.length)
      | some k => ((rowL N sep l).1 :: (rowsL N sep n ((rowL N sep l).2.2.drop k)).1, (rowsL N sep n ((rowL N sep l).2.2.drop k)).2)

def bigR (rows : List (List (List UInt8))) : Bool := decide (1048576 < rows.length) || decide (16384 < widest (rows.map fun r => r.map bas))
def readPost (s : ByteArray) (res : List (List (List UInt8)) × Option Nat) (w : World) (e : Ending) (w' : World) : Prop :=
  Below w.heap.size w w' ∧ match res with
    | (rows, none) => if bigR rows then e = .returned (.tuple #[.slice none 0 0, .int .i64 0, .int .i64 7]) else ∃ v, e = .returned (.tuple #[v, .int .i64 0, .int .i64 0]) ∧ RowsV w'.heap.size w' v (rows.map fun r => r.map bas)
    | (_, some q) => e = .returned (.tuple #[.slice none 0 0, .int .i64 (s.size - q), .int .i64 13])

theorem fieldL_len (sep : UInt8) (l : List UInt8) : (fieldL sep l).2.2.length ≤ l.length := by
  unfold fieldL
  split
  · split
    · simp
    · rename_i f r h
      obtain ⟨q, hq, _⟩ := quotedL_suffix h
      have : l.tail.length = q.length + (r.length + 1) := by rw [hq]; simp
      simp at this; simp; omega
  · split <;> simp
theorem rowL_len (sep : UInt8) : ∀ (n : Nat) (l : List UInt8), (rowL n sep l).2.2.length ≤ l.length
  | 0, l => by simp [rowL]
  | n + 1, l => by
    have h1 := fieldL_len sep l
    unfold rowL
    split
    · exact h1
    · split
      · have h2 := rowL_len sep n (fieldL sep l).2.2.tail
        simp at h2 ⊢; omega
      · exact h1
theorem fieldL_suf (sep : UInt8) (l : List UInt8) : (fieldL sep l).2.2 <:+ l := by
  unfold fieldL
  split
  · split
    · exact List.nil_suffix
    · rename_i f r h
      obtain ⟨q, hq, _⟩ := quotedL_suffix h
      have h1 : l.tail <:+ l := List.tail_suffix _
      exact (show r <:+ l.tail from ⟨q ++ [34], by rw [hq]; simp⟩).trans h1
  · split <;> exact List.drop_suffix _ _
theorem rowL_suf (sep : UInt8) : ∀ (n : Nat) (l : List UInt8), (rowL n sep l).2.2 <:+ l
  | 0, l => List.suffix_refl _
  | n + 1, l => by
    have h1 := fieldL_suf sep l
    unfold rowL
    split
    · exact h1
    · split
      · exact ((rowL_suf sep n (fieldL sep l).2.2.tail).trans (List.tail_suffix _)).trans h1
      · exact h1
theorem suf_drop {r l : List UInt8} (h : r <:+ l) : l.drop (l.length - r.length) = r := by
  obtain ⟨q, rfl⟩ := h
  simp
theorem rowsL_bad {N n : Nat} {sep : UInt8} {l r : List UInt8} {fs : List (List UInt8)} (hn : 0 < n) (hl : l ≠ []) (h : rowL N sep l = (fs, true, r)) : rowsL N sep n l = ([], some r.length) := by
  obtain ⟨n, rfl⟩ : ∃ m, n = m + 1 := ⟨n - 1, by omega⟩
  simp [rowsL, hl, h]
theorem rowsL_end {N n : Nat} {sep : UInt8} {l r : List UInt8} {fs : List (List UInt8)} (hn : 0 < n) (hl : l ≠ []) (h : rowL N sep l = (fs, false, r)) (he : endL r = none) : rowsL N sep n l = ([], some r.length) := by
  obtain ⟨n, rfl⟩ : ∃ m, n = m + 1 := ⟨n - 1, by omega⟩
  simp [rowsL, hl, h, he]
theorem rowsL_go {N n k : Nat} {sep : UInt8} {l r : List UInt8} {fs : List (List UInt8)} (hl : l ≠ []) (h : rowL N sep l = (fs, false, r)) (he : endL r = some k) : rowsL N sep (n + 1) l = (fs :: (rowsL N sep n (r.drop k)).1, (rowsL N sep n (r.drop k)).2) := by
  simp [rowsL, hl, h, he]
theorem rowsL_nil (N n : Nat) (sep : UInt8) : rowsL N sep n [] = ([], none) := by
  cases n <;> simp [rowsL]
theorem drop_ne (s : ByteArray) (p : Nat) (h : p < s.size) : s.data.toList.drop p ≠ [] := by rw [drop_cons s p h]; simp

theorem endL_le {l : List UInt8} {k : Nat} (h : endL l = some k) : k ≤ l.length := by
  unfold endL at h
  split at h
  · simp at h; omega
  · split at h
    · rename_i h1 h2
      cases l with
      | nil => exact absurd rfl h1
      | cons x r => simp at h; simp; omega
    · split at h
      · rename_i h1 h2 h3
        cases l with
        | nil => exact absurd rfl h1
        | cons x r =>
          cases r with
          | nil => simp [Lib.hasPrefix, List.isPrefixOf] at h3
          | cons y r => simp at h; simp; omega
      · cases h
theorem endL_pos {l : List UInt8} {k : Nat} (h : endL l = some k) (hl : l ≠ []) : 0 < k := by
  unfold endL at h
  rw [if_neg hl] at h
  split at h
  · simp at h; omega
  · split at h
    · simp at h; omega
    · cases h

theorem Cells.shut {Ds : List Nat} {w w' : World} {b off : Nat} {vs : List Value} (h : Cells w b off vs) (hs : Rf.Shut Ds w w') (hD : ∀ D ∈ Ds, w.heap[D]? = some (.deferred (some []))) : Cells w' b off vs := by
  intro i x hx
  have h1 := h i x hx
  refine (World.cell?_of_block (w := w) (a := ⟨b, off + i, none⟩) (hs.block b ?_)).trans h1
  intro hm
  have h2 := hD b hm
  unfold World.cell? at h1
  rw [h2] at h1; cases h1
theorem SliceV.shut {Ds : List Nat} {top : Nat} {w w' : World} {v : Value} {vs : List Value} (h : SliceV top w v vs) (hs : Rf.Shut Ds w w') (hD : ∀ D ∈ Ds, w.heap[D]? = some (.deferred (some []))) : SliceV top w' v vs := by
  rcases h with h | ⟨b, off, cap, h1, h2, h3⟩
  · exact .inl h
  · exact .inr ⟨b, off, cap, h1, h2, h3.shut hs hD⟩
theorem RowsV.shut {Ds : List Nat} {top : Nat} {w w' : World} {v : Value} {rows : List (List ByteArray)} (h : RowsV top w v rows) (hs : Rf.Shut Ds w w') (hD : ∀ D ∈ Ds, w.heap[D]? = some (.deferred (some []))) : RowsV top w' v rows := by
  obtain ⟨svs, h1, h2, h3⟩ := h
  exact ⟨svs, h1.shut hs hD, h2, fun i sv row a b => (h3 i sv row a b).shut hs hD⟩
theorem SliceV.mono {top top' : Nat} {w : World} {v : Value} {vs : List Value} (h : SliceV top w v vs) (ht : top ≤ top') : SliceV top' w v vs := by
  rcases h with h | ⟨b, off, cap, h1, h2, h3⟩
  · exact .inl h
  · exact .inr ⟨b, off, cap, h1, by omega, h3⟩
theorem RowsV.mono {top top' : Nat} {w : World} {v : Value} {rows : List (List ByteArray)} (h : RowsV top w v rows) (ht : top ≤ top') : RowsV top' w v rows := by
  obtain ⟨svs, h1, h2, h3⟩ := h
  exact ⟨svs, h1.mono ht, h2, fun i sv row a b => (h3 i sv row a b).mono ht⟩

def readAct (s : ByteArray) (sep : UInt8) (R : Nat) (v8 u9 u10 u18 u19 u20 u21 u22 u23 u24 u25 u26 u27 u28 u29 u30 u31 u32 u33 u34 u35 u36 u37 u38 u39 u40 u41 u42 u43 u44 u45 u46 u47 u48 u49 u50 u51 u52 u53 u54 u55 u56 u57 u58 u59 u60 : Value) (Ds : List Nat) : Act :=
  { tmps := #[Value.string s, Value.int IntKind.u8 (sep.toNat : Int), undef, undef, Value.slice none 0 0, Value.int IntKind.i64 0, Value.int IntKind.i64 0, Value.pointer (some ⟨R, 0, none⟩), v8, u9, u10, Value.int IntKind.u8 (sep.toNat : Int), Value.bool true, Value.bool false, Value.string s, Value.int IntKind.u8 (sep.toNat : Int), Value.agg #[Value.string s, Value.int IntKind.i64 0, Value.int IntKind.u8 (sep.toNat : Int), Value.int IntKind.i64 (-1)], Value.pointer (some ⟨R, 0, none⟩), u18, u19, u20, u21, u22, u23, u24, u25, u26, u27, u28, u29, u30, u31, u32, u33, u34, u35, u36, u37, u38, u39, u40, u41, u42, u43, u44, u45, u46, u47, u48, u49, u50, u51, u52, u53, u54, u55, u56, u57, u58, u59, u60], defers := Ds.map Rf.mark }

/-- What holds between two rows. -/
def readI (s : ByteArray) (sep : UInt8) (_m : Int) (w : World) (res : List (List (List UInt8)) × Option Nat) (v8 : Value) (Ds : List Nat) (wr : World) : Prop :=
  ∃ (rows : List (List (List UInt8))) (p n : Nat), p ≤ s.size ∧ s.size < p + n ∧ rows.length ≤ p ∧ RdAt w.heap.size s p sep.toNat (-1) wr ∧ Below w.heap.size w wr ∧ RowsOwn (w.heap.size + 1) wr v8 rows ∧
    Ds.Nodup ∧ (∀ D ∈ Ds, w.heap.size ≤ D ∧ wr.heap[D]? = some (.deferred (some []))) ∧ Hid (res = (rows ++ (rowsL (s.size + 1) sep n (s.data.toList.drop p)).1, (rowsL (s.size + 1) sep n (s.data.toList.drop p)).2))

set_option maxHeartbeats 4000000 in
theorem read_any (s : ByteArray) (sep : UInt8) (m : Int) (w : World) (hs : s.size < 4294967281) (hm : w.cell? ⟨0, 0, none⟩ = some (.int .i64 m)) (hsep : (((sep.toNat : Nat) : Int) != 0 && ((sep.toNat : Nat) : Int) != 10 && ((sep.toNat : Nat) : Int) != 13 && ((sep.toNat : Nat) : Int) != 34) = true) :
    Calls Tryd.prog 7 #[.string s, .int .u8 sep.toNat] w (readPost s (rowsL (s.size + 1) sep (s.size + 1) s.data.toList) w) := by
  have HS := hid hsep
  clear hsep
  generalize hres : rowsL (s.size + 1) sep (s.size + 1) s.data.toList = res
  have HRES := hid hres
  clear hres
  refine Rf.calls_of_marks Tryd.func7 rfl ?_
  simp only [Tryd.ntmps7, List.size_toArray, List.length_cons, List.length_nil, Nat.reduceAdd, Nat.reduceSub, Array.replicate_succ, Array.replicate_zero, List.push_toArray, List.append_toArray, List.nil_append, List.cons_append]
  go_wp2_with fail
  refine (sep_any _ _).mono ?_
  rintro e w' ⟨rfl, rfl⟩
  rw [HS.out]
  go_wp2_with fail
  refine wp_loop (fun a' wr => ∃ u9 u10 u18 u19 u20 u21 u22 u23 u24 u25 u26 u27 u28 u29 u30 u31 u32 u33 u34 u35 u36 u37 u38 u39 u40 u41 u42 u43 u44 u45 u46 u47 u48 u49 u50 u51 u52 u53 u54 u55 u56 u57 u58 u59 u60 v8 Ds, a' = readAct s sep w.heap.size v8 u9 u10 u18 u19 u20 u21 u22 u23 u24 u25 u26 u27 u28 u29 u30 u31 u32 u33 u34 u35 u36 u37 u38 u39 u40 u41 u42 u43 u44 u45 u46 u47 u48 u49 u50 u51 u52 u53 u54 u55 u56 u57 u58 u59 u60 Ds ∧ readI s sep m w res v8 Ds wr) (fun _ wr => rdLeft w.heap.size s wr) ?_ ?_
  · refine ⟨_, _, _, _, _, _, _, _, _, _, _, _, _, _, _, _, _, _, _, _, _, _, _, _, _, _, _, _, _, _, _, _, _, _, _, _, _, _, _, _, _, _, _, _, _, _, [], rfl, [], 0, s.size + 1, Nat.zero_le _, by omega, Nat.zero_le _, World.alloc_heap_new w _, (Below.refl _ w).alloc (Nat.le_refl _) _, ⟨[], World.ownsRow_nil .., rfl, fun i sv row h => (by simp at h)⟩, List.nodup_nil, fun D h => (by cases h), ?_⟩
    unfold Hid
    rw [← HRES.out]; simp
  · rintro a' wr ⟨u9, u10, u18, u19, u20, u21, u22, u23, u24, u25, u26, u27, u28, u29, u30, u31, u32, u33, u34, u35, u36, u37, u38, u39, u40, u41, u42, u43, u44, u45, u46, u47, u48, u49, u50, u51, u52, u53, u54, u55, u56, u57, u58, u59, u60, v8, Ds, rfl, rows, p, n, hp, hn, hrl, hA, hbl, hrows, hnd, hDs, HP⟩
    unfold readAct
    obtain ⟨⟨hc0, hc1, hc2, hc3⟩, hf1, hf3⟩ := hA.cells
    have HA := hid hA
    clear hA
    by_cases hlt : p < s.size
    · go_wp2_with fail
      refine (fields_any _ _).mono ?_
      rintro e w1 ⟨rfl, rfl⟩
      go_wp2_with fail
      have hV0 : ((wr.alloc (.cells #[.slice none 0 0] 23)).alloc (.cells #[.pointer (some ⟨w.heap.size, 0, none⟩)] 48)).heap[wr.heap.size]? = some (.cells #[.slice none 0 0] 23 (0, 0)) := (Below.heap_alloc _ _ _ (by simp)).trans (World.alloc_heap_new wr _)
      have hC0 : ((wr.alloc (.cells #[.slice none 0 0] 23)).alloc (.cells #[.pointer (some ⟨w.heap.size, 0, none⟩)] 48)).heap[wr.heap.size + 1]? = some (.cells #[.pointer (some ⟨w.heap.size, 0, none⟩)] 48 (0, 0)) := by
        have := World.alloc_heap_new (wr.alloc (.cells #[.slice none 0 0] 23)) (.cells #[.pointer (some ⟨w.heap.size, 0, none⟩)] 48)
        rwa [World.size_alloc] at this
      have hsz0 : ((wr.alloc (.cells #[.slice none 0 0] 23)).alloc (.cells #[.pointer (some ⟨w.heap.size, 0, none⟩)] 48)).heap.size = wr.heap.size + 2 := by simp
      have hb0 : Below wr.heap.size wr ((wr.alloc (.cells #[.slice none 0 0] 23)).alloc (.cells #[.pointer (some ⟨w.heap.size, 0, none⟩)] 48)) := ((Below.refl _ wr).alloc (Nat.le_refl _) _).alloc (by simp) _
      generalize hW0 : (wr.alloc (.cells #[.slice none 0 0] 23)).alloc (.cells #[.pointer (some ⟨w.heap.size, 0, none⟩)] 48) = W0 at hV0 hC0 hsz0 hb0 ⊢
      clear hW0
      have HSZ := hid hsz0
      have hRlt := HA.out.lt
      generalize hrow : rowL (s.size + 1) sep (s.data.toList.drop p) = rw0
      obtain ⟨FS, BAD, RR⟩ := rw0
      have HROW := hid hrow
      clear hrow
      refine Rf.wp_rangeFunc (n := 1) (gf := 24) (lb := #[.pointer (some ⟨wr.heap.size + 1, 0, none⟩)]) (by rfl) (enters_of Tryd.func24 (by kernel_rfl) rfl) ?_
      intro fn
      rw [show W0.heap.size = wr.heap.size + 2 from HSZ.out]
      generalize hrc : Rf.rec0 fn _ _ _ _ _ = rc
      have HRC := hid hrc
      clear hrc
      have hl0 := Rf.loopWorld_rec W0 rc
      have hD0 := Rf.loopWorld_mark W0 rc
      have hbL := Rf.loopWorld_below W0 rc
      have hsL := Rf.loopWorld_size W0 rc
      rw [show W0.heap.size = wr.heap.size + 2 from HSZ.out] at hl0 hD0 hbL hsL
      generalize Rf.loopWorld W0 rc = WL at hl0 hD0 hbL hsL ⊢
      have hbwL : Below wr.heap.size wr WL := hb0.trans (hbL.mono (by omega))
      have hk0 : Keep w.heap.size wr WL := Keep.of_below hbwL
      refine (fields1_in s sep m w.heap.size (wr.heap.size + 1) (wr.heap.size + 2 + 1) p FS BAD RR
        (fun pre W => ∃ v, W.heap[wr.heap.size]? = some (.cells #[v] 23 (0, 0)) ∧ W.ownsRow wr.heap.size 9 1 v pre.length (pre.map fun l => Value.string (bas l)) ∧ Keep w.heap.size wr W ∧
          W.heap[wr.heap.size + 2]? = some (.deferred (some [])) ∧ W.heap[wr.heap.size + 2 + 1]? = some (.loop rc) ∧ W.heap[wr.heap.size + 1]? = some (.cells #[.pointer (some ⟨w.heap.size, 0, none⟩)] 48 (0, 0)))
        hs hp HROW.out ?_ ?_ WL (HA.out.below hbwL hRlt) ((hbL.block _ (by omega)).trans hC0) (bcell hbwL (by omega) (bcell hbl (cell_lt hm) hm)) (cell_lt hm) (by omega) ⟨.slice none 0 0, (hbL.block _ (by omega)).trans hV0, World.ownsRow_nil .., hk0, hD0, hl0, (hbL.block _ (by omega)).trans hC0⟩).mono ?_
      · rintro pre W W' ⟨v, h1, h2, h3, h4, h5, h6⟩ hk
        have hlt6 := (Array.getElem?_eq_some_iff.1 h6).1
        have hlt1 := (Array.getElem?_eq_some_iff.1 h1).1
        have hlt4 := (Array.getElem?_eq_some_iff.1 h4).1
        have hlt5 := (Array.getElem?_eq_some_iff.1 h5).1
        exact ⟨v, (hk.block _ hlt1 (by omega)).trans h1, ownsRow_keep h2 (fun k hk1 hk2 => hk.block k hk2 (by omega)), h3.trans hk, (hk.block _ hlt4 (by omega)).trans h4, (hk.block _ hlt5 (by omega)).trans h5, (hk.block _ hlt6 (by omega)).trans h6⟩
      · rintro pre f W ⟨v, h1, h2, h3, h4, h5, h6⟩ hpl
        refine Rf.yield_round h5 (by rw [← HRC.out]; rfl) ?_
        rw [← HRC.out]
        simp only [Rf.rec0]
        intro K hK
        gi_wp2
        refine ⟨by rw [← HRC.out]; rfl, ?_⟩
        have hlt1 := (Array.getElem?_eq_some_iff.1 h1).1
        have hlt5 := (Array.getElem?_eq_some_iff.1 h5).1
        have g1 : (W.putObj (wr.heap.size + 2 + 1) (.loop { rc with state := .busy })).heap[wr.heap.size]? = some (.cells #[v] 23 (0, 0)) := (World.putObj_heap_other (by omega)).trans h1
        have g4 : (W.putObj (wr.heap.size + 2 + 1) (.loop { rc with state := .busy })).heap[wr.heap.size + 2]? = some (.deferred (some [])) := (World.putObj_heap_other (by omega)).trans h4
        have g5 : (W.putObj (wr.heap.size + 2 + 1) (.loop { rc with state := .busy })).heap[wr.heap.size + 2 + 1]? = some (.loop { rc with state := .busy }) := World.putObj_heap_same hlt5
        have g2 : (W.putObj (wr.heap.size + 2 + 1) (.loop { rc with state := .busy })).ownsRow wr.heap.size 9 1 v pre.length (pre.map fun l => Value.string (bas l)) :=
          ownsRow_other h2 (fun k cur hk => World.putObj_heap_other (by intro e; subst e; rw [h5] at hk; cases hk))
        have gk : ∀ k, k ≠ wr.heap.size + 2 + 1 → (W.putObj (wr.heap.size + 2 + 1) (.loop { rc with state := .busy })).heap[k]? = W.heap[k]? := fun k hk => World.putObj_heap_other hk
        have gs : (W.putObj (wr.heap.size + 2 + 1) (.loop { rc with state := .busy })).heap.size = W.heap.size := by simp
        have gos : Keep w.heap.size wr (W.putObj (wr.heap.size + 2 + 1) (.loop { rc with state := .busy })) :=
          h3.trans' (fun k hk => World.putObj_heap_other (by omega)) rfl rfl rfl (by simp)
        have hrsz := h3.size
        generalize W.putObj (wr.heap.size + 2 + 1) (.loop { rc with state := .busy }) = wb at g1 g2 g4 g5 gk gs gos ⊢
        have G4 := hid g4
        have G6 := hid ((gk (wr.heap.size + 1) (by omega)).trans h6)
        have H6 := hid h6
        have G5 := hid g5
        have GK := hid gk
        have H5 := hid h5
        have GS := hid gs
        have gs1 : W.heap.size ≤ wb.heap.size := by omega
        clear g4 g5 gk h5 h4 gs h6
        have gc1 : wb.cell? ⟨wr.heap.size, 0, none⟩ = some v := by rw [Lib.cell_of_heap g1]; rfl
        have gf1 : wb.frozen? ⟨wr.heap.size, 0, none⟩ = false := Lib.frozen_of_heap g1 0
        have G1 := hid g1
        clear g1 h1
        obtain ⟨i0, hi, hz0, hz1, hz2⟩ := info_parts infoStr
        gi_wp2_with (gi_at_builtin; refine wpListIn_append_own _ rfl _ _ 23 rfl wr.heap.size 9 i0 (.string ⟨#[]⟩) 1 16 Tryd.underlying23 hi hz0 hz1 hz2 rfl (by decide) _ _ _ rfl (g2.alloc _) ⟨wb.heap.size, 0, none⟩ 1 1 [.string (bas f)] rfl rfl (cell_one_new _ _ _) (by simp [Value.oneCell']) (by unfold maxLen; omega) (by omega) (by have := gos.size; simp; omega) ?_; intro v' w1 hown' hgrow _; obtain ⟨g', cap', rfl⟩ := ownsRow_succ hown'; obtain ⟨ec1, ef1⟩ := app_cell g2 hgrow G1.out (by decide))
        have hws := hgrow.size
        simp only [World.size_alloc] at hws
        have E1 := app_block g2 hgrow G1.out (fun _ h => by cases h)
        have E4 := app_block g2 hgrow G4.out (fun _ h => by cases h)
        have E5 := app_block g2 hgrow G5.out (fun _ h => by cases h)
        have E6 := app_block g2 hgrow G6.out (fun _ h => by cases h)
        have hrec : ({ rc with state := .ready, pending := none } : Loop) = rc := by rw [← HRC.out]; rfl
        generalize hv' : Value.slice (some ⟨g', 0, none⟩) (pre.length + 1) cap' = v' at hown' ⊢
        have F1 : (w1.setCell ⟨wr.heap.size, 0, none⟩ v').heap[wr.heap.size]? = some (.cells #[v'] 23 (0, 0)) := set_one E1 v'
        have FO : ∀ k, k ≠ wr.heap.size → (w1.setCell ⟨wr.heap.size, 0, none⟩ v').heap[k]? = w1.heap[k]? := fun k hk => Below.heap_setCell _ _ _ _ hk
        have FS' : (w1.setCell ⟨wr.heap.size, 0, none⟩ v').heap.size = w1.heap.size := by simp [World.setCell]
        have PO : ∀ k, k ≠ wr.heap.size + 2 + 1 → ((w1.setCell ⟨wr.heap.size, 0, none⟩ v').putObj (wr.heap.size + 2 + 1) (.loop rc)).heap[k]? = (w1.setCell ⟨wr.heap.size, 0, none⟩ v').heap[k]? := fun k hk => World.putObj_heap_other hk
        have hl3 := (FO _ (by omega)).trans E5
        have hlow : ∀ k, k < wr.heap.size → w1.heap[k]? = wb.heap[k]? := fun k hk =>
          (hgrow.block k (by have := gos.size; simp; omega) (own_ge g2 hk)).trans (Below.heap_alloc _ _ _ (by have := gos.size; omega))
        refine ⟨{ rc with state := .busy }, hl3, rfl, ⟨v', ?_, ?_, ?_, ?_, ?_, ?_⟩, ?_, ?_⟩
        all_goals rw [show ({ ({ rc with state := .busy } : Loop) with state := .ready, pending := none } : Loop) = rc from hrec]
        · exact (PO _ (by omega)).trans F1
        · have e1 : pre.length + 1 = (pre ++ [f]).length := by simp
          refine ownsRow_other (w := w1) (by simpa using hown') (fun k cur hk => (PO k ?_).trans (FO k ?_))
          · intro e; subst e; rw [E5] at hk; cases hk
          · intro e; subst e; rw [E1] at hk; cases hk
        · exact gos.trans' (fun k hk => ((PO k (by omega)).trans (FO k (by omega))).trans (hlow k hk)) hgrow.os hgrow.tape hgrow.output (by rw [World.putObj_size, FS']; omega)
        · exact ((PO _ (by omega)).trans (FO _ (by omega))).trans E4
        · have := World.putObj_heap_same (w := w1.setCell ⟨wr.heap.size, 0, none⟩ v') (o := .loop rc) (Array.getElem?_eq_some_iff.1 hl3).1
          rw [this, ← HRC.out]; rfl
        · exact ((PO _ (by omega)).trans (FO _ (by omega))).trans E6
        · rw [World.putObj_size, FS']; omega
        · rintro k (rfl | rfl | rfl)
          · exact (((PO 0 (by omega)).trans (FO 0 (by omega))).trans (hlow 0 (by omega))).trans (GK.out 0 (by omega))
          · exact (((PO _ (by omega)).trans (FO _ (by omega))).trans (hlow _ hRlt)).trans (GK.out _ (by omega))
          · exact (((PO _ (by omega)).trans (FO _ (by omega))).trans E6).trans H6.out.symm
      · rintro e W' ⟨hv, ⟨v, h1, h2, h3, h4, h5, h6⟩, hOut⟩
        refine ⟨hv, rc, h5, by rw [← HRC.out]; simp [Rf.rec0], ?_⟩
        have hpn : rc.pending = none := by rw [← HRC.out]; rfl
        refine Rf.after_none hpn ?_
        have k1 : (W'.putObj (wr.heap.size + 2 + 1) (.loop { rc with state := .exhausted })).heap[wr.heap.size]? = some (.cells #[v] 23 (0, 0)) := (World.putObj_heap_other (by omega)).trans h1
        have k2 : (W'.putObj (wr.heap.size + 2 + 1) (.loop { rc with state := .exhausted })).ownsRow wr.heap.size 9 1 v FS.length (FS.map fun l => Value.string (bas l)) :=
          ownsRow_other h2 (fun k cur hk => World.putObj_heap_other (by intro e; subst e; rw [h5] at hk; cases hk))
        have k3 : Keep w.heap.size wr (W'.putObj (wr.heap.size + 2 + 1) (.loop { rc with state := .exhausted })) := h3.trans' (fun k hk => World.putObj_heap_other (by omega)) rfl rfl rfl (by simp)
        have k4 : (W'.putObj (wr.heap.size + 2 + 1) (.loop { rc with state := .exhausted })).heap[wr.heap.size + 2]? = some (.deferred (some [])) := (World.putObj_heap_other (by omega)).trans h4
        have kOut : RdOut w.heap.size s sep.toNat BAD RR (W'.putObj (wr.heap.size + 2 + 1) (.loop { rc with state := .exhausted })) := by
          unfold RdOut RdAt at hOut ⊢
          rw [World.putObj_heap_other (by omega)]; exact hOut
        generalize W'.putObj (wr.heap.size + 2 + 1) (.loop { rc with state := .exhausted }) = W2 at k1 k2 k3 k4 kOut ⊢
        clear h1 h2 h3 h4 h5 h6 hOut hv HRC hl0 hD0 hbL hsL hbwL hk0 hV0 hC0 hb0 hpn
        have hDs2 : ∀ D ∈ Ds, D < wr.heap.size ∧ D ≠ w.heap.size ∧ w.heap.size ≤ D ∧ W2.heap[D]? = some (.deferred (some [])) := by
          intro D hD
          obtain ⟨h1, h2⟩ := hDs D hD
          have h3 := (Array.getElem?_eq_some_iff.1 h2).1
          have h4 : D ≠ w.heap.size := by
            intro e; subst e
            have := HA.out; unfold RdAt at this; rw [this] at h2; cases h2
          exact ⟨h3, h4, h1, (k3.block D h3 h4).trans h2⟩
        have hnd2 : ((wr.heap.size + 2) :: Ds).Nodup := List.nodup_cons.2 ⟨fun h => by have := (hDs2 _ h).1; omega, hnd⟩
        have hD2 : ∀ D ∈ (wr.heap.size + 2) :: Ds, W2.heap[D]? = some (.deferred (some [])) := by
          intro D hD
          rcases List.mem_cons.1 hD with rfl | hD
          · exact k4
          · exact (hDs2 D hD).2.2.2
        have hD3 : ∀ D ∈ (wr.heap.size + 2) :: Ds, w.heap.size ≤ D ∧ D ≠ w.heap.size := by
          intro D hD
          rcases List.mem_cons.1 hD with rfl | hD
          · omega
          · exact ⟨(hDs2 D hD).2.2.1, (hDs2 D hD).2.1⟩
        have hRRl : RR.length + p ≤ s.size := by
          have := rowL_len sep (s.size + 1) (s.data.toList.drop p)
          rw [HROW.out] at this; simp at this; omega
        have HD2 := hid hD2
        have HD3 := hid hD3
        have HK4 := hid k4
        clear hDs2 hDs hD2 hD3 k4
        cases BAD with
        | true =>
          obtain ⟨a1, hA2⟩ := kOut
          obtain ⟨⟨mc0, mc1, mc2, mc3⟩, mf1, mf3⟩ := hA2.cells
          have HA2 := hid hA2
          clear hA2
          go_wp2_with fail
          go_quiet (fail)
          go_wp2_with fail
          refine Rf.out_ret ((wr.heap.size + 2) :: Ds) rfl hnd2 HD2.out ?_
          intro w' hw'
          refine ⟨_, results_tmp3 rfl _ _ _, ?_⟩
          have hP := HP.out
          rw [rowsL_bad (by omega) (drop_ne s p hlt) HROW.out] at hP
          rw [hP]
          exact ⟨hw'.below (bdrew (k3.below hbl (Nat.le_refl _) hbl.size) _) (fun D hD => (HD3.out D hD).1), rfl⟩
        | false =>
          have hq : ((s.size : Int) - RR.length) = ((s.size - RR.length : Nat) : Int) := by omega
          unfold RdOut at kOut
          simp only [Bool.false_eq_true, if_false] at kOut
          rw [hq] at kOut
          clear hq
          have hRRd : s.data.toList.drop (s.size - RR.length) = RR := by
            have h1 := rowL_suf sep (s.size + 1) (s.data.toList.drop p)
            rw [HROW.out] at h1
            have h2 := suf_drop (h1.trans (List.drop_suffix _ _))
            simpa using h2
          have hq1 : s.size - RR.length ≤ s.size := by omega
          have hq2 : p ≤ s.size - RR.length := by omega
          have hq3 : RR.length = s.size - (s.size - RR.length) := by omega
          generalize s.size - RR.length = q at kOut hRRd hq1 hq2 hq3
          have HQ3 := hid hq3
          have HRR := hid hRRd
          clear hq3 hRRd
          obtain ⟨⟨mc0, mc1, mc2, mc3⟩, mf1, mf3⟩ := kOut.cells
          have HA2 := hid kOut
          clear kOut
          go_wp2_with fail
          refine (end_any _ s q sep.toNat (-1) W2 HA2.out hq1 (by omega)).mono ?_
          rw [HRR.out]
          generalize hend : endL RR = er
          have HEND := hid hend
          clear hend
          rintro e w3 ⟨rfl, hk3, hpo⟩
          cases er with
          | none =>
            obtain ⟨⟨nc0, nc1, nc2, nc3⟩, nf1, nf3⟩ := hpo.cells
            have HA3 := hid hpo
            clear hpo
            have hnn : (0 : Int) ≤ (q : Int) := by omega
            go_wp2_with fail
            go_quiet (fail)
            go_wp2_with fail
            refine Rf.out_ret ((wr.heap.size + 2) :: Ds) rfl hnd2 (fun D hD => (hk3.block D (Array.getElem?_eq_some_iff.1 (HD2.out D hD)).1 (HD3.out D hD).2).trans (HD2.out D hD)) ?_
            intro w' hw'
            refine ⟨_, results_tmp3 rfl _ _ _, ?_⟩
            have hP := HP.out
            rw [rowsL_end (by omega) (drop_ne s p hlt) HROW.out HEND.out] at hP
            rw [hP]
            refine ⟨hw'.below (bdrew ((k3.trans hk3).below hbl (Nat.le_refl _) hbl.size) _) (fun D hD => (HD3.out D hD).1), ?_⟩
            have hq5 : (q : Int) = s.size - RR.length := by have := HQ3.out; omega
            show _ = Ending.returned (.tuple #[_, .int .i64 (s.size - RR.length), _])
            rw [← hq5]; rfl
          | some k =>
            have hkl : k ≤ RR.length := endL_le HEND.out
            have hkp : RR ≠ [] → 0 < k := endL_pos HEND.out
            have hA3 : RdAt w.heap.size s ((q + k : Nat) : Int) sep.toNat (-1) w3 := by simpa using hpo
            clear hpo
            obtain ⟨⟨nc0, nc1, nc2, nc3⟩, nf1, nf3⟩ := hA3.cells
            have HA3 := hid hA3
            clear hA3
            have hVlt := (Array.getElem?_eq_some_iff.1 k1).1
            have n1 : w3.heap[wr.heap.size]? = some (.cells #[v] 23 (0, 0)) := (hk3.block _ hVlt (by omega)).trans k1
            have n2 : w3.ownsRow wr.heap.size 9 1 v FS.length (FS.map fun l => Value.string (bas l)) := ownsRow_keep k2 (fun k hk1 hk2 => hk3.block k hk2 (by omega))
            have hk23 := k3.trans hk3
            obtain ⟨svs, hown, hsl, hsr⟩ := hrows
            have n3 : w3.ownsRow (w.heap.size + 1) 23 1 v8 svs.length svs := ownsRow_keep hown (fun k hk1 hk2 => hk23.block k hk2 (by omega))
            have n4 : Hid (∀ (i : Nat) (sv : Value) (row : List (List UInt8)), svs[i]? = some sv → rows[i]? = some row → Row9 wr.heap.size w3 sv row) := hid fun i sv row h1 h2 =>
              (hsr i sv row h1 h2).keep fun k cur hk hc => hk23.block k hk (by intro e; subst e; have := HA.out; unfold RdAt at this; rw [this] at hc; cases hc)
            have HSL := hid hsl
            have hsl1 : svs.length ≤ rows.length := by omega
            clear hsl hsr hown
            have nc : w3.cell? ⟨wr.heap.size, 0, none⟩ = some v := by rw [Lib.cell_of_heap n1]; rfl
            have hB3 := hk23.below hbl (Nat.le_refl _) hbl.size
            have hsz3 := hk23.size
            obtain ⟨i0, hi, hz0, hz1, hz2⟩ := info_parts infoRow
            obtain ⟨va, vn, vc, rfl⟩ : ∃ va vn vc, v = .slice va vn vc := by
              rcases n2.2 with ⟨rfl, _⟩ | ⟨g, cap, cur, rfl, _⟩
              · exact ⟨_, _, _, rfl⟩
              · exact ⟨_, _, _, rfl⟩
            go_wp2_with (at_builtin; refine wpList_append_own _ rfl _ _ 22 rfl (w.heap.size + 1) 23 i0 (.slice none 0 0) 1 24 Tryd.underlying22 hi hz0 hz1 hz2 rfl (by decide) _ _ _ rfl (n3.alloc _) ⟨w3.heap.size, 0, none⟩ 1 1 [.slice va vn vc] rfl rfl (cell_one_new _ _ _) (by simp [Value.oneCell']) (by unfold maxLen; omega) (by omega) (by have := hB3.size; have := HA3.out.lt; simp; omega) ?_; intro v' w4 hown' hgrow _)
            have hws := hgrow.size
            simp only [World.size_alloc] at hws
            have hlow : ∀ (k : Nat) (o : Obj), w3.heap[k]? = some o → (∀ cur, o ≠ .cells cur 23 (0, 0)) → w4.heap[k]? = some o := fun k o hk ho => app_block n3 hgrow hk ho
            have hA4 : RdAt w.heap.size s ((q + k : Nat) : Int) sep.toNat (-1) w4 := hlow _ _ HA3.out (fun _ h => by cases h)
            have hrow4 : Row9 w4.heap.size w4 (.slice va vn vc) FS := by
              have h1 : Row9 w3.heap.size w3 (.slice va vn vc) FS := by
                rcases n2.2 with ⟨h1, h2⟩ | ⟨g, cap, cur, h1, _, h3, _, _, _, h4⟩
                · exact .inl ⟨h1, by simpa using h2⟩
                · refine .inr ⟨g, cap, cur, h1, (Array.getElem?_eq_some_iff.1 h3).1, h3, by simpa using h4⟩
              exact (h1.keep fun k cur _ hc => (hlow k _ hc (fun cur' h => by cases h)).trans hc.symm).mono (by omega)
            have hP := HP.out
            obtain ⟨n, rfl⟩ : ∃ j, n = j + 1 := ⟨n - 1, by omega⟩
            rw [rowsL_go (drop_ne s p hlt) HROW.out HEND.out] at hP
            have hdrop : RR.drop k = s.data.toList.drop (q + k) := by rw [← HRR.out, List.drop_drop]
            rw [hdrop] at hP
            have hq5 := HQ3.out
            have hpk : p < q + k := by
              by_cases hR0 : RR = []
              · subst hR0; simp at hq5; omega
              · have := hkp hR0; omega
            refine ⟨⟨_, _, _, _, _, _, _, _, _, _, _, _, _, _, _, _, _, _, _, _, _, _, _, _, _, _, _, _, _, _, _, _, _, _, _, _, _, _, _, _, _, _, _, _, _, _, (wr.heap.size + 2) :: Ds, rfl, ?_⟩, ?_⟩
            · refine ⟨rows ++ [FS], q + k, n, by omega, by omega, by simp; omega, hA4, ?_, ⟨svs ++ [.slice va vn vc], by simpa using hown', by have := HSL.out; simp; omega, ?_⟩, hnd2, ?_, ?_⟩
              · exact hB3.trans ((Below.refl _ w3).alloc hB3.size _ |>.grown hgrow (by have := hB3.size; simp; omega) (fun k hk => by have := own_ge n3 (k := k); exact Nat.le_of_not_lt fun h => this (by omega) hk.symm))
              · intro i sv row h1 h2
                by_cases hi : i < svs.length
                · rw [List.getElem?_append_left hi] at h1
                  rw [List.getElem?_append_left (by have := HSL.out; omega)] at h2
                  exact ((n4.out i sv row h1 h2).keep fun k cur _ hc => (hlow k _ hc (fun cur' h => by cases h)).trans hc.symm).mono (by omega)
                · have hi2 : i = svs.length := by
                    have := (List.getElem?_eq_some_iff.1 h1).1
                    simp at this; omega
                  subst hi2
                  rw [List.getElem?_append_right (Nat.le_refl _)] at h1
                  rw [HSL.out, List.getElem?_append_right (Nat.le_refl _)] at h2
                  simp at h1 h2
                  subst h1; subst h2
                  exact hrow4
              · intro D hD
                refine ⟨(HD3.out D hD).1, hlow D _ ((hk3.block D (Array.getElem?_eq_some_iff.1 (HD2.out D hD)).1 (HD3.out D hD).2).trans (HD2.out D hD)) (fun _ h => by cases h)⟩
              · unfold Hid; rw [hP]; simp
            · rw [rdLeft_eq hA4, rdLeft_eq HA.out]; omega
    · have hpe : p = s.size := by omega
      subst hpe
      clear hlt
      have hP := HP.out
      rw [List.drop_eq_nil_of_le (by simp), rowsL_nil] at hP
      simp only [List.append_nil] at hP
      have HP2 := hid hP
      clear hP HP
      obtain ⟨svs, hown, hsl, hsr⟩ := hrows
      have hRV : RowsV wr.heap.size wr v8 (rows.map fun r => r.map bas) := by
        refine ⟨svs, ?_, by simp [hsl], fun i sv row h1 h2 => ?_⟩
        · rcases hown.2 with ⟨h1, h2⟩ | ⟨g, cap, cur, h1, _, h3, _, _, _, h4⟩
          · refine .inl ⟨⟨_, _, h1⟩, ?_⟩
            have : svs.length = 0 := h2
            simpa using this
          · refine .inr ⟨g, 0, cap, h1, (Array.getElem?_eq_some_iff.1 h3).1, fun i x hx => ?_⟩
            rw [Nat.zero_add, Lib.cell_of_heap h3]
            simp only [Nat.mul_one] at h4
            rw [← h4, List.getElem?_take] at hx
            split at hx
            · simpa using hx
            · cases hx
        · simp only [List.getElem?_map, Option.map_eq_some_iff] at h2
          obtain ⟨row', h2, rfl⟩ := h2
          exact (hsr i sv row' h1 h2).slice
      have HRV := hid hRV
      obtain ⟨va, vn, vc, rfl⟩ : ∃ va vn vc, v8 = .slice va vn vc := by
        obtain ⟨svs2, h1, _⟩ := hRV
        obtain ⟨a, cap, h⟩ := h1.len
        exact ⟨_, _, _, h⟩
      have hvn : vn = rows.length := by
        rcases hown.2 with ⟨h1, h2⟩ | ⟨g, cap, cur, h1, _⟩
        · simp only [Value.slice.injEq] at h1; have : svs.length = 0 := h2; omega
        · simp only [Value.slice.injEq] at h1; omega
      clear hRV hown hsl hsr
      subst hvn
      have HDs := hid hDs
      clear hDs
      have hfin : ∀ (e : Ending) (W w' : World), Hid (Below wr.heap.size wr W) → Rf.Shut Ds W w' → e = .returned (.tuple #[.slice va rows.length vc, .int .i64 0, .int .i64 0]) → bigR rows = false → readPost s res w e w' := by
        intro e W w' hbW hsh he hbig
        have h1 := hbl.trans (hbW.out.mono hbl.size)
        rw [HP2.out]
        refine ⟨hsh.below h1 (fun D hD => (HDs.out D hD).1), ?_⟩
        show if bigR rows = true then _ else _
        rw [if_neg (by rw [hbig]; decide)]
        exact ⟨_, he, ((HRV.out.below hbW.out (Nat.le_refl _)).mono (by have := hbW.out.size; rw [hsh.size]; exact this)).shut hsh (fun D hD => (hbW.out.block D (Array.getElem?_eq_some_iff.1 (HDs.out D hD).2).1).trans (HDs.out D hD).2)⟩
      by_cases hmr : 1048576 < rows.length
      · have hbig := hid (show bigR rows = true by simp [bigR, hmr])
        go_wp2_with fail
        refine Rf.out_ret Ds rfl hnd (fun D hD => (HDs.out D hD).2) ?_
        intro w' hw'
        refine ⟨_, results_tmp3 rfl _ _ _, ?_⟩
        rw [HP2.out]
        refine ⟨hw'.below hbl (fun D hD => (HDs.out D hD).1), ?_⟩
        show if bigR rows = true then _ else _
        rw [if_pos hbig.out]; rfl
      · generalize hwid : widest (rows.map fun r => r.map bas) = wd
        have HWD := hid hwid
        clear hwid
        by_cases hwb : 16384 < wd
        · have hbig := hid (show bigR rows = true by simp [bigR, HWD.out, hwb])
          go_wp2_with fail
          refine (wide_any wr.heap.size _ _ wr HRV.out (Nat.le_refl _) (by simp; omega)).mono ?_
          rw [HWD.out]
          rintro e w5 ⟨rfl, hb5⟩
          go_wp2_with fail
          refine Rf.out_ret Ds rfl hnd (fun D hD => (hb5.block D (Array.getElem?_eq_some_iff.1 (HDs.out D hD).2).1).trans (HDs.out D hD).2) ?_
          intro w' hw'
          refine ⟨_, results_tmp3 rfl _ _ _, ?_⟩
          rw [HP2.out]
          refine ⟨hw'.below (hbl.trans (hb5.mono hbl.size)) (fun D hD => (HDs.out D hD).1), ?_⟩
          show if bigR rows = true then _ else _
          rw [if_pos hbig.out]; rfl
        · have hbig := hid (show bigR rows = false by simp [bigR, HWD.out, hwb]; omega)
          go_wp2_with fail
          refine (wide_any wr.heap.size _ _ wr HRV.out (Nat.le_refl _) (by simp; omega)).mono ?_
          rw [HWD.out]
          rintro e w5 ⟨rfl, hb5⟩
          go_wp2_with fail
          refine Rf.out_ret Ds rfl hnd (fun D hD => (hb5.block D (Array.getElem?_eq_some_iff.1 (HDs.out D hD).2).1).trans (HDs.out D hD).2) ?_
          intro w' hw'
          exact ⟨_, results_tmp3 rfl _ _ _, hfin _ w5 w' hb5 hw' rfl hbig.out⟩
end Go.Proofs.YtpkdnmjcommbmaaDoor
