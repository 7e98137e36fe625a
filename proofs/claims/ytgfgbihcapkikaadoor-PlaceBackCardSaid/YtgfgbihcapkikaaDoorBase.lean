/- Shared words: what a call keeps; small steps of a walk. -/
import Derived.Test.YtgfgbihcapkikaaDoorRows
import Derived.WalkKit
import Derived.WalkSpells
import Derived.WalkLawsBesides
import Derived.Deep.QuietTactic
import Derived.BigQuiet

namespace Go.Proofs.YtgfgbihcapkikaaDoor
open Go.RowKit

theorem hid {p : Prop} (h : p) : Hid p := h
theorem bcell {n : Nat} {w w' : World} (h : Below n w w') {b o : Nat} (hb : b < n) {v : Value} (hc : w.cell? ⟨b, o, none⟩ = some v) : w'.cell? ⟨b, o, none⟩ = some v := (h.cell (p := ⟨b, o, none⟩) hb).trans hc
theorem bfree {n : Nat} {w w' : World} (h : Below n w w') {b o : Nat} (hb : b < n) (hc : w.frozen? ⟨b, o, none⟩ = false) : w'.frozen? ⟨b, o, none⟩ = false := (h.frozen (p := ⟨b, o, none⟩) hb).trans hc
theorem bdrew {n : Nat} {w w' : World} (h : Below n w w') (k : Nat) : Below n w (w'.drewN k) := ⟨h.os, h.tape, h.output, h.size, h.block⟩
theorem cset {w : World} {b o : Nat} {x : Value} (v : Value) (h : w.cell? ⟨b, o, none⟩ = some x) : (w.setCell ⟨b, o, none⟩ v).cell? ⟨b, o, none⟩ = some v :=
  World.cell?_setCell_same' _ _ _ (by rw [h]; rfl)
theorem fset {w : World} {p q : Addr} (v : Value) (h : w.frozen? q = false) : (w.setCell p v).frozen? q = false := by rw [World.frozen?_setCell]; exact h
theorem ret_int {k : IntKind} {a b : Int} (h : a = b) : Ending.returned (.int k a) = .returned (.int k b) := by rw [h]
theorem ret_bool {a b : Bool} (h : a = b) : Ending.returned (.bool a) = .returned (.bool b) := by rw [h]
theorem ret_val {a b : Value} (h : a = b) : Ending.returned a = .returned b := by rw [h]
theorem getq {α : Type} {l : List α} {i : Nat} (h : i < l.length) : l[i]? = some l[i] := by simp [h]
def bas (l : List UInt8) : ByteArray := ⟨l.toArray⟩
theorem bas_size (l : List UInt8) : (bas l).size = l.length := by show l.toArray.size = _; simp
theorem bas_list (l : List UInt8) : (bas l).data.toList = l := by show l.toArray.toList = l; simp
theorem bas_of (s : ByteArray) : s = bas s.data.toList := by apply ByteArray.ext; simp [bas]
theorem size_list (s : ByteArray) : s.size = s.data.toList.length := by show s.data.size = _; simp
end Go.Proofs.YtgfgbihcapkikaaDoor
