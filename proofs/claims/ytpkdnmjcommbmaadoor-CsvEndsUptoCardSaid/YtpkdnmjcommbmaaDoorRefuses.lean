/- CsvRefuses: the walk. -/
import Derived.Test.YtpkdnmjcommbmaaDoorLives
namespace Go.Proofs.YtpkdnmjcommbmaaDoor
open Go.RowKit Go.Shelf

theorem write_own (B N : Nat) (xs : List Value) (v : Value) (W : World) (h : W.ownsRow B 23 1 v N (xs ++ [.slice none 0 0])) (hxs : ∀ v ∈ xs, ∃ a' n' cap', v = .slice a' n' cap' ∧ n' ≤ 140737488355328) (hN : N ≤ 140737488355328) :
    Calls Tryd.prog 6 #[v, .int .u8 44] W fun e w' => e = .returned (.tuple #[.string ⟨#[]⟩, .int .i64 2]) ∧ W = w' := by
  obtain ⟨hl, h2⟩ := h
  simp only [List.length_append, List.length_cons, List.length_nil, Nat.mul_one] at hl
  rcases h2 with ⟨_, hz⟩ | ⟨g, cap, cur, rfl, _, hh, hc1, hc2, hc3, hc4⟩
  · omega
  · rw [Nat.mul_one] at hc4
    have hcell : ∀ i x, (xs ++ [Value.slice none 0 0])[i]? = some x → W.cell? ⟨g, 0 + i, none⟩ = some x := by
      intro i x hx
      rw [Nat.zero_add, Lib.cell_of_heap hh]
      rw [← hc4] at hx
      have hi : i < N := by
        have := (List.getElem?_eq_some_iff.1 hx).1
        rw [hc4] at this
        simp at this; omega
      rw [List.getElem?_take_of_lt hi] at hx
      simpa using hx
    refine write_empty (some ⟨g, 0, none⟩) N cap 44 W (by decide) (by omega) (hid ⟨g, 0, rfl, ?_⟩) (hid ⟨xs.length, none, 0, by omega, g, 0, rfl, hcell _ _ (by simp)⟩)
    intro i hi
    obtain ⟨x, hx⟩ : ∃ x, (xs ++ [Value.slice none 0 0])[i]? = some x := ⟨_, getq (by simp; omega)⟩
    have hm := List.mem_of_getElem? hx
    rcases List.mem_append.1 hm with hm | hm
    · obtain ⟨a', n', cap', rfl, h⟩ := hxs x hm
      exact ⟨a', n', cap', hcell i _ hx, h⟩
    · simp at hm
      subst hm
      exact ⟨none, 0, 0, hcell i _ hx, by omega⟩
theorem own_none (w : World) : (w.alloc (.cells #[] 23)).ownsRow w.heap.size 23 1 (.slice (some ⟨w.heap.size, 0, none⟩) 0 0) 0 [] :=
  ⟨rfl, .inr ⟨w.heap.size, 0, #[], rfl, Nat.le_refl _, by show (w.heap.push _)[w.heap.size]? = _; simp, Nat.le_refl _, by decide, rfl, rfl⟩⟩

set_option maxHeartbeats 4000000 in
theorem refuses_yes (s : ByteArray) (a : Option Addr) (n cap : Nat) (svs : List Value) (top : Nat) (m : Int) (w : World) (hm : w.cell? ⟨0, 0, none⟩ = some (.int .i64 m)) (h0 : 0 < w.heap.size) (ht : top ≤ w.heap.size)
    (hv : (a = none ∧ n = 0 ∧ cap = 0 ∧ svs = []) ∨ ∃ ad : Addr, a = some ad ∧ svs.length = n ∧ ∀ j u, svs[j]? = some u → ad.block < top ∧ w.cell? (ad.add j) = some u) (hsv : ∀ v ∈ svs, ∃ a' n' cap', v = .slice a' n' cap' ∧ n' ≤ 140737488355328) (hn : (n + 1) * 24 ≤ 140737488355328) :
    Calls Tryd.prog 4 #[.string s, .slice a n cap] w fun e w' => e = .returned (.bool true) ∧ Below w.heap.size w w' := by
  have HV := hid hv
  have HSV := hid hsv
  clear hv hsv
  go_enter Tryd.func4, Tryd.ntmps4
  go_wp2_with fail
  have hlit : ∀ k : Nat, k < 4 → ∃ c : Int, badSep c = true ∧ (w.alloc (Obj.cells #[Value.int IntKind.u8 0, Value.int IntKind.u8 10, Value.int IntKind.u8 13, Value.int IntKind.u8 34] 5)).cell? ⟨w.heap.size, 0 + k, none⟩ = some (.int .u8 c) := by
    intro k hk
    have hA := Cells.new w [Value.int IntKind.u8 0, Value.int IntKind.u8 10, Value.int IntKind.u8 13, Value.int IntKind.u8 34] 5
    match k, hk with
    | 0, _ => exact ⟨0, by decide, hA 0 _ rfl⟩
    | 1, _ => exact ⟨10, by decide, hA 1 _ rfl⟩
    | 2, _ => exact ⟨13, by decide, hA 2 _ rfl⟩
    | 3, _ => exact ⟨34, by decide, hA 3 _ rfl⟩
  have hb1 : Below w.heap.size w (w.alloc (Obj.cells #[Value.int IntKind.u8 0, Value.int IntKind.u8 10, Value.int IntKind.u8 13, Value.int IntKind.u8 34] 5)) := (Below.refl _ w).alloc (Nat.le_refl _) _
  have hs1 : w.heap.size < (w.alloc (Obj.cells #[Value.int IntKind.u8 0, Value.int IntKind.u8 10, Value.int IntKind.u8 13, Value.int IntKind.u8 34] 5)).heap.size := by simp
  generalize hW : w.alloc (Obj.cells #[Value.int IntKind.u8 0, Value.int IntKind.u8 10, Value.int IntKind.u8 13, Value.int IntKind.u8 34] 5) = w1 at *
  clear hW
  have HL := hid hlit
  clear hlit
  have hm1 := bcell hb1 h0 hm
  go_loop [16] (fun i => ∃ k : Nat, k ≤ 4 ∧ i = .int .i64 k) (fun i => 4 - (intOf i).toNat)
  case atStart => exact ⟨0, by omega, rfl⟩
  case round =>
    obtain ⟨k, hk, rfl⟩ := hrel
    by_cases hlt : k < 4
    · obtain ⟨c, hc, hcell⟩ := HL.out k hlt
      rw [Nat.zero_add] at hcell
      have HC := hid hc
      clear hc
      go_wp2_with fail
      refine (read_badsep s c w1 HC.out).mono ?_
      rintro e w' ⟨rfl, rfl⟩
      go_wp2_with fail
      refine (write_badsep _ c _ HC.out ⟨_, _, _, rfl⟩).mono ?_
      rintro e w' ⟨rfl, rfl⟩
      go_wp2_with fail
      go_round
      case rel => exact ⟨k + 1, by omega, by go_num⟩
      case measure => simp [intOf]; omega
    · obtain ⟨i0, hi, hz0, hz1, hz2⟩ := info_parts infoRow
      rcases HV.out with ⟨rfl, rfl, rfl, hnil⟩ | ⟨ad, rfl, rfl, hcl⟩
      · clear hnil
        have hown := own_none w1
        go_wp2_with (at_builtin; refine wpList_append_own _ rfl _ _ 22 rfl w1.heap.size 23 i0 (.slice none 0 0) 1 24 Tryd.underlying22 hi hz0 hz1 hz2 rfl (by decide) _ 0 [] rfl (hown.alloc _) ⟨w1.heap.size + 1, 0, none⟩ 1 1 [.slice none 0 0] rfl rfl ?c2 ?c3 (by decide) (by decide) (by simp; omega) ?_)
        case c3 => rfl
        intro v' w2 hown' hgrow _
        have hb2 : Below w.heap.size w w2 := ((hb1.alloc (by omega) _).alloc (by simp; omega) _).grown hgrow (by simp; omega) (fun k hk => by simp [Value.ownBlock] at hk; omega)
        have hm2 := bcell hb2 h0 hm
        have hs2 := hb2.size
        clear hgrow hown
        go_wp2_with fail
        refine (write_own _ _ [] v' w2 hown' (by simp) (by decide)).mono ?_
        rintro e w' ⟨rfl, rfl⟩
        go_wp2_with fail
        refine (lives_yes m w2 hm2 (by omega)).mono ?_
        rintro e w3 ⟨rfl, hb3⟩
        go_wp2_with fail
        go_ret
        exact ⟨rfl, hb2.trans (hb3.mono hs2)⟩
      · have HCL := hid hcl
        clear hcl
        have hown := own_none w1
        go_wp2_with (at_builtin; refine wpList_append_own _ rfl _ _ 22 rfl w1.heap.size 23 i0 (.slice none 0 0) 1 24 Tryd.underlying22 hi hz0 hz1 hz2 rfl (by decide) _ 0 [] rfl hown ad svs.length cap svs rfl ?d1 ?d2 ?d3 ?d4 ?d5 ?d6 ?_)
        case d2 =>
          intro j u hu
          obtain ⟨h1, h2⟩ := HCL.out j u hu
          have hab : (ad.add j).block = ad.block := by simp [Addr.add]; split <;> rfl
          have hbw : Below w.heap.size w (w1.alloc (.cells #[] 23)) := hb1.alloc (by omega) _
          exact (hbw.cell (p := ad.add j) (by rw [hab]; omega)).trans h2
        case d3 =>
          intro u hu
          obtain ⟨a', n', cap', rfl, _⟩ := HSV.out u hu
          rfl
        case d4 => unfold maxLen; omega
        case d5 => omega
        intro v' w2 hown' hgrow _
        have hb2 : Below w.heap.size w w2 := (hb1.alloc (by omega) _).grown hgrow (by simp; omega) (fun k hk => by simp [Value.ownBlock] at hk; omega)
        have hb2z := hgrow.size
        simp only [World.size_alloc] at hb2z
        clear hgrow hown
        obtain ⟨va, vn, vc, rfl⟩ : ∃ va vn vc, v' = .slice va vn vc := by
          rcases hown'.2 with ⟨rfl, _⟩ | ⟨g, cap, cur, rfl, _⟩
          · exact ⟨_, _, _, rfl⟩
          · exact ⟨_, _, _, rfl⟩
        have hob : ∀ k, (Value.slice va vn vc).ownBlock = some k → w.heap.size ≤ k := by
          intro k hk
          rcases hown'.2 with ⟨h, _⟩ | ⟨g, c2, cur, h, hg, _⟩
          · injection h with h1 h2 h3; subst h1; simp [Value.ownBlock] at hk
          · injection h with h1 h2 h3; subst h1; simp [Value.ownBlock] at hk; omega
        have HOB := hid hob
        clear hob
        go_wp2_with (at_builtin; refine wpList_append_own _ rfl _ _ 22 rfl w1.heap.size 23 i0 (.slice none 0 0) 1 24 Tryd.underlying22 hi hz0 hz1 hz2 rfl (by decide) _ _ _ rfl (hown'.alloc _) ⟨w2.heap.size, 0, none⟩ 1 1 [.slice none 0 0] rfl rfl (cell_one_new _ _ _) (by simp [Value.oneCell']) (by unfold maxLen; omega) (by omega) (by simp; omega) ?_)
        intro v3 w3 hown3 hgrow3 _
        have hb3 : Below w.heap.size w w3 := (hb2.alloc (by omega) _).grown hgrow3 (by simp; omega) HOB.out
        have hm3 := bcell hb3 h0 hm
        have hs3 := hb3.size
        clear hgrow3
        go_wp2_with fail
        refine (write_own _ _ svs v3 w3 (by simpa using hown3) HSV.out (by omega)).mono ?_
        rintro e w' ⟨rfl, rfl⟩
        go_wp2_with fail
        refine (lives_yes m w3 hm3 (by omega)).mono ?_
        rintro e w4 ⟨rfl, hb4⟩
        go_wp2_with fail
        go_ret
        exact ⟨rfl, hb3.trans (hb4.mono hs3)⟩
end Go.Proofs.YtpkdnmjcommbmaaDoor
