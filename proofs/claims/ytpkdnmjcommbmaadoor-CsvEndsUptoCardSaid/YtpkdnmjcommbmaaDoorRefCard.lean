/- CsvRefuses: the row and its tied card: of every text and all rows the law returns true, and its arguments read as they did. No condition. -/
import Derived.Test.YtpkdnmjcommbmaaDoorRefuses
import Derived.Test.YtpkdnmjcommbmaaDoorTie
import Derived.Test.YtpkdnmjcommbmaaDoorCards
import Derived.ProofKit
import Derived.OpenShut
import Derived.LaidMore
import Derived.Lay
import Derived.SevenTiedAt
import Derived.Stop.Joined
import Derived.Deep.Slices
import Derived.Shelf.Vars
import Derived.ChangeMaps5
namespace Go.Proofs.YtpkdnmjcommbmaaDoor
open Go.ChangeShapes Go.WideShapes Go.ChangeAt Go.RowKit

theorem own : ownKnob Tryd.prog.godebug = none := by kernel_rfl
theorem laidOut : laidOutB Tryd.prog = true := by kernel_rfl
theorem cells23 : Tryd.prog.cellsOf 23 = 1 := by kernel_rfl
theorem bytes23 : Tryd.prog.bytesOf 23 = 24 := by kernel_rfl
theorem bytes9 : Tryd.prog.bytesOf 9 = 16 := by kernel_rfl
theorem maxLen_cell {W : World} (h : W.ShapedOpen Tryd.prog) : ∃ m, W.cell? ⟨0, 0, none⟩ = some (.int .i64 m) :=
  cell_of_shapedOpen_int (t := 3) (zero := #[.int .i64 0]) h (of_decide_eq_true (by kernel_rfl)) (by kernel_rfl) rfl (by kernel_rfl) (by kernel_rfl) Tryd.underlying3

theorem block_lt {w : World} {a : Addr} {v : Value} (h : w.cell? a = some v) : a.block < w.heap.size := by
  unfold World.cell? at h
  split at h
  · rename_i hb; exact (Array.getElem?_eq_some_iff.1 hb).1
  · cases h

theorem weightsAll_mem {H : Type} {P : Program} {e : TypeId} : ∀ {l : List (DataW H)} {d : DataW H}, d ∈ l → ∀ n ∈ d.weights P e, n ∈ DataW.weightsAll P e l
  | d' :: r, d, hd, n, hn => by
    simp only [DataW.weightsAll, List.mem_append]
    rcases List.mem_cons.1 hd with rfl | h
    · exact Or.inl hn
    · exact Or.inr (weightsAll_mem h n hn)

theorem sized_inner {H : Type} {P : Program} {ts : List TypeId} {ds : List (DataW H)} (h : (DataW.weightsEach P ts ds).all (· ≤ reachBytes) = true) {j : Nat} {t e q : TypeId} {elems spare e' sp' : List (DataW H)}
    (ht : ts[j]? = some t) (hd : ds[j]? = some (.slice elems spare)) (hu : P.underlying t = some (.slice e)) (hu2 : P.underlying e = some (.slice q)) (hx : DataW.slice e' sp' ∈ elems) : (e'.length + sp'.length) * P.bytesOf q ≤ reachBytes := by
  refine of_decide_eq_true (List.all_eq_true.1 h _ (DataW.weights_mem_each ht hd _ ?_))
  simp only [DataW.weights, hu, List.mem_cons, List.mem_append]
  exact Or.inr (Or.inl (weightsAll_mem hx _ (by simp [DataW.weights, hu2])))

set_option maxRecDepth 100000 in
set_option maxHeartbeats 1000000 in
theorem refuses_lifted (os : Os) (started : os.Started) (H : Type) (enc : TypeId × Value → H) :
    ReturnsInHanded {} Tryd.checked os 4 .any (fun w args => (Rows.csvRefusesSpec.pre enc Tryd.prog Tryd.f4 Rows.csvRefusesRow.domain false w args ∧ laidMetH Tryd.prog Rows.csvRefusesRow.laid w) ∧ sizedMet enc Tryd.prog Tryd.f4 (OpenSpec.ofChange Rows.csvRefusesSpec) false w args)
      (Rows.csvRefusesSpec.post enc Tryd.prog Tryd.f4 false true false false) := by
  refine returnsInHanded_of_calls (C := Tryd.checked) own started (by kernel_rfl)
    (ChangeSpec.witness_shaped (enc := enc) (C := Tryd.checked) (os := os) (X := fun w _ => laidMetH Tryd.prog Rows.csvRefusesRow.laid w) false (World.laidAll Tryd.prog os Rows.csvRefusesRow.laid) #[.string ⟨#[]⟩, .slice none 0 0] 8 (World.laidAll_os _ _ _)
      (World.shaped_of_ZipB (by kernel_rfl) (by kernel_rfl)) (by kernel_rfl) (by kernel_rfl) (by kernel_rfl)
      (by rw [MakeChecks.laidMetH_plain _ _ _ (by kernel_rfl)]; exact laidMet_laidAll _ (by kernel_rfl) (by kernel_rfl))) ?_
  intro w0 tape i _ hsh _ hok hpre _
  obtain ⟨_, _, _, fn', hfn', _, _, _, _, hval0⟩ := hok
  have e : fn' = Tryd.f4 := Option.some.inj (hfn'.symm.trans Tryd.func4)
  subst e
  obtain ⟨⟨⟨ds, gs, before, hw0, hc⟩, _⟩, hz⟩ := hpre
  have hW := DataW.Whole.of_heap (w' := w0.forCall tape i) (by rfl) hw0
  have hsz0 := hz.weights hw0
  suffices hmain : Calls Tryd.prog 4 i.args (w0.forCall tape i) (fun e W' => ∃ v, e = .returned v ∧ Rows.csvRefusesSpec.post enc Tryd.prog Tryd.f4 false true false false (w0.forCall tape i) i.args v W') by
    refine hmain.mono fun e W' ⟨v, he, hp⟩ => ?_
    subst he
    exact ChangeSpec.post_blind hp
  generalize w0.forCall tape i = W at *
  obtain ⟨bl, args, vars⟩ := i
  have hsz : (DataW.weightsEach Tryd.prog (Tryd.f4.params.toList ++ Rows.csvRefusesSpec.plain.varTypes Tryd.prog) (ds ++ gs)).all (· ≤ reachBytes) = true := hsz0
  have hval : ∀ (j : Nat) t v, Tryd.f4.params[j]? = some t → args[j]? = some v → Value.okWide Tryd.prog W .any w0.heap.size t v := hval0
  have hW' := hW
  obtain ⟨p, q, hA0, hV, rfl, hfz, hnd⟩ := hW
  have hA : DataW.TrodAll enc Tryd.prog W 0 (fun _ => true) true Tryd.f4.params.toList args.toList ds p := hA0
  rw [Tryd.params4] at hA hval hsz
  obtain ⟨v0, v1, d0, d1, p0, p1, hv0, rfl, rfl, h0, h1⟩ := trodAll_two hA
  have hargs0 : args = #[v0, v1] := by cases args; simpa using hv0
  subst hargs0
  obtain ⟨rfl, rfl⟩ := trodVars_none hV
  obtain ⟨s, rfl, rfl, rfl, ws⟩ := Go.ChangeMaps.open_string Tryd.underlying9 (hval 0 9 v0 rfl rfl) h0
  obtain ⟨a0, len, cap, rfl⟩ := okWide_slice Tryd.underlying22 (hval 1 22 v1 rfl rfl)
  have h1k := h1
  obtain ⟨fuel, hf⟩ := h1
  have hlt : ∀ x ∈ p1, x.block < W.heap.size := fun x hx => hW'.lt x (by simp [hx])
  clear hA0 hval0 hsz0
  obtain ⟨m, hm⟩ := maxLen_cell hsh
  have hbig0 : 0 < W.heap.size := cell_lt hm
  have fin : ∀ W' : World, Below W.heap.size W W' → Rows.csvRefusesSpec.post enc Tryd.prog Tryd.f4 false true false false W #[.string s, .slice a0 len cap] (.bool true) W' := by
    intro W' hb
    have hb1 := Below.trod laidOut (by kernel_rfl) (of_decide_eq_true (by kernel_rfl)) h1k hb hlt
    exact ⟨_, _, _, [], _, [], hW', trodAll_mk1 (shut_bool Tryd.underlying4 _), trodAll_mk2 (Go.ChangeMaps.shut_string Tryd.underlying9 ws) hb1, rfl, hb.frame _, fun h => by cases h⟩
  have hwalk : ∃ svs : List Value, ((a0 = none ∧ len = 0 ∧ cap = 0 ∧ svs = []) ∨ ∃ ad : Addr, a0 = some ad ∧ svs.length = len ∧ ∀ j u, svs[j]? = some u → ad.block < W.heap.size ∧ W.cell? (ad.add j) = some u) ∧ (∀ v ∈ svs, ∃ a' n' cap', v = .slice a' n' cap' ∧ n' ≤ 140737488355328) ∧ (len + 1) * 24 ≤ 140737488355328 := by
    have hrb : reachBytes = 140737488351232 := rfl
    rcases Deep.open_slice1 Tryd.underlying22 cells23 hf with ⟨hcs, hx⟩ | ⟨a, len', cap', mm, n, V, D, Pl, hcs, _, hl, _, hmm, hx, hcell⟩
    · simp [Value.cells] at hcs
      obtain ⟨rfl, rfl, rfl⟩ := hcs
      exact ⟨[], .inl ⟨rfl, rfl, rfl, rfl⟩, by simp, by omega⟩
    · simp [Value.cells] at hcs
      obtain ⟨rfl, rfl, rfl⟩ := hcs
      simp only [if_true] at hmm
      simp only [Prod.mk.injEq] at hx
      obtain ⟨hd, hp⟩ := hx
      have hs1 := sized_slice hsz (j := 1) (t := 22) rfl (by rw [hd]; rfl) Tryd.underlying22
      rw [bytes23, hrb] at hs1
      simp only [List.length_map, List.length_range] at hs1
      have hlen : (len + 1) * 24 ≤ 140737488355328 := by omega
      have hel : ∀ i, i < len → ∃ a' n' cap', V i = .slice a' n' cap' ∧ n' ≤ 140737488355328 := by
        intro i hi
        obtain ⟨_, ht⟩ := hcell i (by omega)
        rcases DataW.trod_slice Tryd.underlying23 ht with ⟨h1, _⟩ | ⟨a2, l2, c2, elems, rest, _, _, h1, h2, _, _, _, hl2, _⟩
        · simp at h1
          exact ⟨_, _, _, h1, by omega⟩
        · simp at h1
          refine ⟨_, _, _, h1, ?_⟩
          simp only [Prod.mk.injEq] at h2
          have hs2 := sized_inner hsz (j := 1) (t := 22) (e := 23) (q := 9) rfl (by rw [hd]; rfl) Tryd.underlying22 Tryd.underlying23 (by rw [← h2.1]; exact List.mem_map_of_mem (List.mem_range.2 hi))
          rw [bytes9, hrb] at hs2
          simp at hs2
          omega
      refine ⟨(List.range len).map V, .inr ⟨a, rfl, by simp, ?_⟩, ?_, hlen⟩
      · intro i x hx
        have hi : i < len := by have := (List.getElem?_eq_some_iff.1 hx).1; simpa using this
        simp [hi] at hx
        subst hx
        have hc := (hcell i (by omega)).1
        have hab : (a.add i).block = a.block := by simp [Addr.add]; split <;> rfl
        refine ⟨?_, hc⟩
        rw [← hab]
        exact block_lt hc
      · intro v hv
        obtain ⟨i, hi, rfl⟩ := List.mem_map.1 hv
        exact hel i (List.mem_range.1 hi)
  obtain ⟨svs, hsl, hsv, hlen⟩ := hwalk
  refine (refuses_yes s a0 len cap svs W.heap.size m W hm hbig0 (Nat.le_refl _) hsl hsv hlen).mono ?_
  rintro e W' ⟨rfl, hb⟩
  exact ⟨_, rfl, fin W' hb⟩

theorem refuses_holds : Rows.CsvRefusesSaid :=
  OpenClaim.holds_of_wide 4 Tryd.f4 rfl rfl rfl rfl rfl rfl rfl ⟨rfl, rfl, rfl, rfl, rfl⟩ rfl rfl rfl rfl rfl (by kernel_rfl) Tryd.func4 (by kernel_rfl)
    (of_decide_eq_true (by kernel_rfl)) (by unfold Func.isWrapper; first | (rw [if_pos (by decide +kernel)]; kernel_rfl) | (rw [if_neg (by decide +kernel)]; exact ⟨rfl, rfl⟩))
    (fun os started H enc _ => refuses_lifted os started H enc)
theorem csvRefuses_card : Rows.CsvRefusesCardSaid :=
  Claim7.holds_tied_plain_at .later [] [.data, .pinned] true (true, "e992dab0d041b04c05cc203303af6a77898ab45e6cd18e70e7be04fcd546c37d") false refuses_holds (fun _ h => by cases h) (by kernel_rfl) (fun _ h => by cases h) csvRefuses_row_tie rfl ⟨rfl, rfl⟩ (by kernel_rfl) rfl
    (fun f fn hf hfn => by
      obtain rfl : f = 4 := Option.some.inj ((show Tryd.prog.funcNamed "foolscap/foolscaplaw29.CsvRefuses" = some 4 by kernel_rfl).symm.trans hf) |>.symm
      obtain rfl : fn = Tryd.f4 := (Option.some.inj (Tryd.func4.symm.trans hfn)).symm
      exact ⟨by kernel_rfl, fun j t ht => by
        rw [Tryd.params4] at ht
        have hm : t ∈ [9, 22] := by simpa using Array.mem_of_getElem? ht
        have hall : ([9, 22].all fun u => !Tryd.prog.wantsStandIn u) = true := by kernel_rfl
        exact (show Tryd.prog.wantsStandIn t = false by simpa using List.all_eq_true.1 hall t hm)⟩)
    (by kernel_rfl)
end Go.Proofs.YtpkdnmjcommbmaaDoor
