/- PlaceBack: the row and its tied card: of every cell and every text the law returns true, and its arguments read as they did. No condition of size; the listed variables hold what the program's text lays (the card ties them). -/
import Derived.Test.YtgfgbihcapkikaaDoorOpen
namespace Go.Proofs.YtgfgbihcapkikaaDoor
open Go.ChangeShapes Go.WideShapes Go.ChangeAt Go.RowKit

set_option maxRecDepth 100000 in
set_option maxHeartbeats 1000000 in
theorem placeBack_lifted (os : Os) (started : os.Started) (H : Type) (enc : TypeId × Value → H) :
    ReturnsInHanded {} Tryd.checked os 4 .any (fun w args => (Rows.placeBackSpec.pre enc Tryd.prog Tryd.f4 Rows.placeBackRow.domain false w args ∧ laidMetH Tryd.prog Rows.placeBackRow.laid w) ∧ sizedMet enc Tryd.prog Tryd.f4 (OpenSpec.ofChange Rows.placeBackSpec) false w args)
      (Rows.placeBackSpec.post enc Tryd.prog Tryd.f4 false true false false) := by
  refine returnsInHanded_of_calls (C := Tryd.checked) own started (by kernel_rfl)
    (ChangeSpec.witness_shaped (enc := enc) (C := Tryd.checked) (os := os) (X := fun w _ => laidMetH Tryd.prog Rows.placeBackRow.laid w) false (World.laidAll Tryd.prog os Rows.placeBackRow.laid) #[.agg #[.int .i64 0, .int .i64 0, .bool false, .bool false], .string ⟨#[]⟩] 8 (World.laidAll_os _ _ _)
      (World.shaped_of_ZipB (by kernel_rfl) (by kernel_rfl)) (by kernel_rfl) (by kernel_rfl) (by kernel_rfl)
      (by rw [MakeChecks.laidMetH_plain _ _ _ (by kernel_rfl)]; exact laidMet_laidAll _ (by kernel_rfl) (by kernel_rfl))) ?_
  intro w0 tape i _ hsh _ hok hpre _
  obtain ⟨_, _, _, fn', hfn', _, _, _, _, hval0⟩ := hok
  have e : fn' = Tryd.f4 := Option.some.inj (hfn'.symm.trans Tryd.func4)
  subst e
  obtain ⟨⟨⟨ds, gs, before, hw0, hc⟩, hlaid⟩, _⟩ := hpre
  have htab0 : Tab (w0.forCall tape i).memory := tab_of_laid hlaid
  have hW := DataW.Whole.of_heap (w' := w0.forCall tape i) (by rfl) hw0
  have htab : Tab (w0.forCall tape i) := htab0
  suffices hmain : Calls Tryd.prog 4 i.args (w0.forCall tape i) (fun e W' => ∃ v, e = .returned v ∧ Rows.placeBackSpec.post enc Tryd.prog Tryd.f4 false true false false (w0.forCall tape i) i.args v W') by
    refine hmain.mono fun e W' ⟨v, he, hp⟩ => ?_
    subst he
    exact ChangeSpec.post_blind hp
  clear htab0 hlaid
  generalize w0.forCall tape i = W at *
  obtain ⟨bl, args, vars⟩ := i
  have hval : ∀ (j : Nat) t v, Tryd.f4.params[j]? = some t → args[j]? = some v → Value.okWide Tryd.prog W .any w0.heap.size t v := hval0
  have hW' := hW
  obtain ⟨p, q, hA0, hV, rfl, hfz, hnd⟩ := hW
  have hA : DataW.TrodAll enc Tryd.prog W 0 (fun _ => true) true Tryd.f4.params.toList args.toList ds p := hA0
  rw [Tryd.params4] at hA hval
  obtain ⟨v0, v1, d0, d1, p0, p1, hv0, rfl, rfl, h0, h1⟩ := trodAll_two hA
  have hargs0 : args = #[v0, v1] := by cases args; simpa using hv0
  subst hargs0
  obtain ⟨rfl, rfl⟩ := trodVars_none hV
  obtain ⟨s, rfl, rfl, rfl, ws⟩ := Go.ChangeMaps.open_string Tryd.underlying9 (hval 1 9 v1 rfl rfl) h1
  obtain ⟨r, c, fr, fc, rfl⟩ := open_cell (hval 0 25 v0 rfl rfl) h0
  have hlt : ∀ x ∈ p0, x.block < W.heap.size := fun x hx => hW'.lt x (by simp [hx])
  clear hA0 hval0
  have fin : ∀ W' : World, Below W.heap.size W W' → Rows.placeBackSpec.post enc Tryd.prog Tryd.f4 false true false false W #[.agg #[.int .i64 r, .int .i64 c, .bool fr, .bool fc], .string s] (.bool true) W' := by
    intro W' hb
    have hb1 := Below.trod laidOut (by kernel_rfl) (of_decide_eq_true (by kernel_rfl)) h0 hb hlt
    exact ⟨_, _, _, [], _, [], hW', trodAll_mk1 (shut_bool Tryd.underlying4 _), trodAll_mk2 hb1 (Go.ChangeMaps.shut_string Tryd.underlying9 ws), rfl, hb.frame _, fun h => by cases h⟩
  refine (back_any r c fr fc s W ws htab).mono ?_
  rintro e W' ⟨rfl, hb⟩
  exact ⟨_, rfl, fin W' hb⟩

theorem placeBack_holds : Rows.PlaceBackSaid :=
  OpenClaim.holds_of_wide 4 Tryd.f4 rfl rfl rfl rfl rfl rfl rfl ⟨rfl, rfl, rfl, rfl, rfl⟩ rfl rfl rfl rfl rfl (by kernel_rfl) Tryd.func4 (by kernel_rfl)
    (of_decide_eq_true (by kernel_rfl)) (by unfold Func.isWrapper; first | (rw [if_pos (by decide +kernel)]; kernel_rfl) | (rw [if_neg (by decide +kernel)]; exact ⟨rfl, rfl⟩))
    (fun os started H enc _ => placeBack_lifted os started H enc)
theorem placeBack_card : Rows.PlaceBackCardSaid :=
  Claim7.holds_tied_plain_at .later [] [.data, .data, .data, .sentinel, .sentinel] true (true, "3d944ce6966ca92d50179d8923cc5c723ef9b2cda4e0e67c1cc17168c83bcde6") true placeBack_holds (fun _ h => by cases h) (by kernel_rfl) (fun _ h => by cases h) placeBack_row_tie rfl ⟨rfl, rfl⟩ (by kernel_rfl) rfl
    (fun f fn hf hfn => by
      obtain rfl : f = 4 := Option.some.inj ((show Tryd.prog.funcNamed "foolscap/foolscaplaw05.PlaceBack" = some 4 by kernel_rfl).symm.trans hf) |>.symm
      obtain rfl : fn = Tryd.f4 := (Option.some.inj (Tryd.func4.symm.trans hfn)).symm
      exact ⟨by kernel_rfl, fun j t ht => by
        rw [Tryd.params4] at ht
        have hm : t ∈ [25, 9] := by simpa using Array.mem_of_getElem? ht
        have hall : ([25, 9].all fun u => !Tryd.prog.wantsStandIn u) = true := by kernel_rfl
        exact (show Tryd.prog.wantsStandIn t = false by simpa using List.all_eq_true.1 hall t hm)⟩)
    (by kernel_rfl)
end Go.Proofs.YtgfgbihcapkikaaDoor
