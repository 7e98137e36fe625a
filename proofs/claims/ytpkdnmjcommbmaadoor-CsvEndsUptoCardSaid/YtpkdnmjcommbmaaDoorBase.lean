/- Shared words: how slices and strings lie in memory, and what a call keeps. -/
import Derived.Test.YtpkdnmjcommbmaaDoorRows
import Derived.WalkKit
import Derived.WalkSpells
import Derived.WalkLawsBesides
import Derived.Deep.QuietTactic
import Derived.BigQuiet

namespace Go.Proofs.YtpkdnmjcommbmaaDoor
open Go.RowKit

theorem hid {p : Prop} (h : p) : Hid p := h
/-- The cells of w from b, off on hold vs. -/
def Cells (w : World) (b off : Nat) (vs : List Value) : Prop := ∀ (i : Nat) (x : Value), vs[i]? = some x → w.cell? ⟨b, off + i, none⟩ = some x
/-- A slice value of one-cell elements that holds vs, in memory below block top. -/
def SliceV (top : Nat) (w : World) (v : Value) (vs : List Value) : Prop :=
  ((∃ a cap, v = .slice a 0 cap) ∧ vs = []) ∨ ∃ b off cap, v = .slice (some ⟨b, off, none⟩) vs.length cap ∧ b < top ∧ Cells w b off vs
def strs (l : List ByteArray) : List Value := l.map Value.string
/-- A slice of slices of strings. -/
def RowsV (top : Nat) (w : World) (v : Value) (rows : List (List ByteArray)) : Prop :=
  ∃ svs : List Value, SliceV top w v svs ∧ svs.length = rows.length ∧ ∀ (i : Nat) (sv : Value) (row : List ByteArray), svs[i]? = some sv → rows[i]? = some row → SliceV top w sv (strs row)

theorem Cells.below {w w' : World} {b off n : Nat} {vs : List Value} (h : Cells w b off vs) (hb : Below n w w') (hn : b < n) : Cells w' b off vs :=
  fun i x hx => (hb.cell (p := ⟨b, off + i, none⟩) hn).trans (h i x hx)
theorem SliceV.below {top n : Nat} {w w' : World} {v : Value} {vs : List Value} (h : SliceV top w v vs) (hb : Below n w w') (hn : top ≤ n) : SliceV top w' v vs := by
  rcases h with h | ⟨b, off, cap, rfl, ht, hc⟩
  · exact .inl h
  · exact .inr ⟨b, off, cap, rfl, ht, hc.below hb (by omega)⟩
theorem RowsV.below {top n : Nat} {w w' : World} {v : Value} {rows : List (List ByteArray)} (h : RowsV top w v rows) (hb : Below n w w') (hn : top ≤ n) : RowsV top w' v rows := by
  obtain ⟨svs, h1, h2, h3⟩ := h
  exact ⟨svs, h1.below hb hn, h2, fun i sv row a b => (h3 i sv row a b).below hb hn⟩
/-- The length of a slice value, as the walk reads it. -/
theorem SliceV.len {top : Nat} {w : World} {v : Value} {vs : List Value} (h : SliceV top w v vs) : ∃ a cap, v = .slice a vs.length cap := by
  rcases h with ⟨⟨_, _, rfl⟩, rfl⟩ | ⟨b, off, cap, rfl, _⟩
  · exact ⟨_, _, rfl⟩
  · exact ⟨_, _, rfl⟩
theorem bcell {n : Nat} {w w' : World} (h : Below n w w') {b o : Nat} (hb : b < n) {v : Value} (hc : w.cell? ⟨b, o, none⟩ = some v) : w'.cell? ⟨b, o, none⟩ = some v := (h.cell (p := ⟨b, o, none⟩) hb).trans hc
theorem bfree {n : Nat} {w w' : World} (h : Below n w w') {b o : Nat} (hb : b < n) (hc : w.frozen? ⟨b, o, none⟩ = false) : w'.frozen? ⟨b, o, none⟩ = false := (h.frozen (p := ⟨b, o, none⟩) hb).trans hc
theorem bdrew {n : Nat} {w w' : World} (h : Below n w w') (k : Nat) : Below n w (w'.drewN k) := ⟨h.os, h.tape, h.output, h.size, h.block⟩
theorem cset {w : World} {b o : Nat} {x : Value} (v : Value) (h : w.cell? ⟨b, o, none⟩ = some x) : (w.setCell ⟨b, o, none⟩ v).cell? ⟨b, o, none⟩ = some v :=
  World.cell?_setCell_same' _ _ _ (by rw [h]; rfl)
theorem fset {w : World} {p q : Addr} (v : Value) (h : w.frozen? q = false) : (w.setCell p v).frozen? q = false := by rw [World.frozen?_setCell]; exact h
theorem ret_int {k : IntKind} {a b : Int} (h : a = b) : Ending.returned (.int k a) = .returned (.int k b) := by rw [h]
theorem ret_bool {a b : Bool} (h : a = b) : Ending.returned (.bool a) = .returned (.bool b) := by rw [h]
theorem ret_val {a b : Value} (h : a = b) : Ending.returned a = .returned b := by rw [h]
theorem getq {α : Type} {l : List α} {i : Nat} (h : i < l.length) : l[i]? = some l[i] := by simp [h]
end Go.Proofs.YtpkdnmjcommbmaaDoor
