/- What a row's premises give the walks: a cell's parts, and the library's table of powers of ten. -/
import Derived.Test.YtgfgbihcapkikaaDoorBack
import Derived.Test.YtgfgbihcapkikaaDoorTie
import Derived.Test.YtgfgbihcapkikaaDoorCards
import Derived.ProofKit
import Derived.OpenShut
import Derived.LaidMore
import Derived.Lay
import Derived.SevenTiedAt
import Derived.Stop.Joined
import Derived.Deep.Slices
import Derived.Deep.Strs
import Derived.Shelf.Vars
import Derived.ChangeMaps5
namespace Go.Proofs.YtgfgbihcapkikaaDoor
open Go.ChangeShapes Go.WideShapes Go.ChangeAt Go.RowKit

theorem own : ownKnob Tryd.prog.godebug = none := by kernel_rfl
theorem laidOut : laidOutB Tryd.prog = true := by kernel_rfl
theorem cells25 : Tryd.prog.cellsOf 25 = 4 := by kernel_rfl
theorem cells23 : Tryd.prog.cellsOf 23 = 2 := by kernel_rfl
theorem cells3 : Tryd.prog.cellsOf 3 = 1 := by kernel_rfl
theorem cells4 : Tryd.prog.cellsOf 4 = 1 := by kernel_rfl

theorem open_cell {H : Type} {enc : TypeId × Value → H} {W : World} {b0 : Nat} {base : Nat} {spare : Nat → Bool} {held : Bool} {v : Value} {d : DataW H} {p : List MemPlace}
    (hv : Value.okWide Tryd.prog W .any b0 25 v) (h : DataW.Trod enc Tryd.prog W base spare held 25 v d p) : ∃ (r c : Int) (fr fc : Bool), v = .agg #[.int .i64 r, .int .i64 c, .bool fr, .bool fc] := by
  obtain ⟨cs, rfl, hsz⟩ := okWide_struct Tryd.underlying25 hv
  rw [cells25] at hsz
  obtain ⟨fuel, hf⟩ := h
  simp only [Value.cells] at hf
  obtain ⟨y0, y1, y2, n, _, hl, h0, h1, h2⟩ := Go.Deep.trod_struct3 Tryd.underlying25 hf
  obtain ⟨z0, z1, m, _, hl2, k0, k1⟩ := trod_struct2 Tryd.underlying23 h0
  simp only [cells23, cells3, cells4] at h1 h2 k0 k1
  obtain ⟨a, ea, _, _⟩ := DataW.trod_int Tryd.underlying3 k0
  obtain ⟨b, eb, _, _⟩ := DataW.trod_int Tryd.underlying3 k1
  obtain ⟨c, ec, _⟩ := DataW.trod_bool Tryd.underlying4 h1
  obtain ⟨e, ee, _⟩ := DataW.trod_bool Tryd.underlying4 h2
  obtain ⟨l⟩ := cs
  match l, hsz with
  | [x0, x1, x2, x3], _ =>
    simp at ea eb ec ee
    subst ea; subst eb; subst ec; subst ee
    exact ⟨_, _, _, _, rfl⟩
theorem tab_of_laid {W : World} (h : laidMetH Tryd.prog Rows.placeCellsRow.laid W) : Tab W := by
  rw [MakeChecks.laidMetH_plain _ _ _ (by kernel_rfl)] at h
  obtain ⟨ps, h, _⟩ := h
  obtain ⟨g1, t1, cs1, f1, p1, q1, _, _, _, _, h, _⟩ := h
  obtain ⟨g2, t2, cs2, f2, p2, q2, _, _, _, _, h, _⟩ := h
  obtain ⟨g3, t3, cs3, f3, p3, q3, hg, ht, hvar, hd, _, _⟩ := h
  obtain rfl : 2 = g3 := Option.some.inj ((show Tryd.prog.globalNamed "internal/strconv.uint64pow10" = some 2 by kernel_rfl).symm.trans hg)
  obtain rfl : 84 = t3 := Option.some.inj ((show (Tryd.prog.globals[2]?).map (·.type) = some 84 by kernel_rfl).symm.trans ht)
  have he : Rows.laid_internal_strconv_uint64pow10 (H := Unit) = Lib.tabData .u64 Lib.pow10Tab := by kernel_rfl
  rw [he] at hd
  have hcs := Lib.cells_of_tab Tryd.underlying84 Tryd.underlying70 (by kernel_rfl) (by kernel_rfl) hd
  show Lib.TabIs _ _ _ _ _
  unfold Lib.TabIs
  rw [hvar, ← hcs]
end Go.Proofs.YtgfgbihcapkikaaDoor
