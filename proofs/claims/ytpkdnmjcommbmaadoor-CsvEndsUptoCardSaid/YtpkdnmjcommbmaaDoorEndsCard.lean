/- CsvEnds: the row of the second form and its tied card: of all rows of bulk at most 1048576 and every separator the law returns true, and its arguments read as they did. -/
import Derived.Test.YtpkdnmjcommbmaaDoorRefCard
import Derived.Test.YtpkdnmjcommbmaaDoorEnds
import Derived.Test.YtpkdnmjcommbmaaDoorNeeds
import Derived.JoinedCond
import Derived.Deep.Strs
namespace Go.Proofs.YtpkdnmjcommbmaaDoor
open Go.ChangeShapes Go.WideShapes Go.ChangeAt Go.RowKit

theorem cells9 : Tryd.prog.cellsOf 9 = 1 := by kernel_rfl
def rowWt (row : List (List UInt8)) : Nat := (row.map fun f => f.length + 1).sum + 1
theorem bulk_strs {H : Type} : ∀ l : List (List UInt8), Rows.uptoBulkAll (l.map fun b => (DataW.lit (.string b) : DataW H)) = (l.map fun f => f.length + 1).sum
  | [] => rfl
  | x :: r => by
    have ih := bulk_strs (H := H) r
    simp only [List.map_cons, List.sum_cons, Rows.uptoBulkAll, Rows.uptoBulk, ih]
theorem bulk_le {H : Type} {R : Nat → List (List UInt8)} {D : Nat → DataW H} : ∀ l : List Nat, (∀ i ∈ l, rowWt (R i) ≤ Rows.uptoBulk (D i)) → ((l.map R).map rowWt).sum ≤ Rows.uptoBulkAll (l.map D)
  | [], _ => by simp
  | x :: r, h => by
    have ih := bulk_le r (fun i hi => h i (by simp [hi]))
    have := h x (by simp)
    simp only [List.map_cons, List.sum_cons, Rows.uptoBulkAll]
    omega
theorem sum_mem {α : Type} {g : α → Nat} : ∀ {l : List α} {x : α}, x ∈ l → g x ≤ (l.map g).sum
  | y :: r, x, h => by
    rw [List.map_cons, List.sum_cons]
    rcases List.mem_cons.1 h with rfl | h
    · omega
    · have := sum_mem (g := g) h; omega
theorem len_sum {α : Type} {g : α → Nat} (hg : ∀ x, 1 ≤ g x) : ∀ l : List α, l.length ≤ (l.map g).sum
  | [] => by simp
  | y :: r => by have := len_sum hg r; have := hg y; rw [List.map_cons, List.sum_cons, List.length_cons]; omega
theorem fieldW_le (sep : UInt8) (al : Bool) (f : List UInt8) : (fieldW sep al f).length ≤ f.length + 2 := by
  unfold fieldW
  split <;> simp
theorem tail_le (sep : UInt8) (al : Bool) : ∀ r : List (List UInt8), (r.flatMap fun g => sep :: fieldW sep al g).length ≤ 3 * (r.map fun f => f.length + 1).sum
  | [] => by simp
  | x :: r => by
    have ih := tail_le sep al r
    have := fieldW_le sep al x
    rw [List.flatMap_cons, List.length_append, List.map_cons, List.sum_cons, List.length_cons]
    omega
theorem rowW_le (sep : UInt8) (row : List (List UInt8)) : (rowW sep row).length ≤ 3 * rowWt row := by
  unfold rowW rowWt
  rw [List.length_append]
  cases row with
  | nil => simp [rowP]
  | cons f r =>
    have h1 := fieldW_le sep ((f :: r).length == 1) f
    have h2 := tail_le sep ((f :: r).length == 1) r
    simp only [rowP, List.length_append, List.map_cons, List.sum_cons, List.length_cons, List.length_nil] at h1 h2 ⊢
    omega
theorem writeL_le (sep : UInt8) : ∀ rows : List (List (List UInt8)), (writeL sep rows).length ≤ 3 * (rows.map rowWt).sum
  | [] => by simp [writeL]
  | x :: r => by
    have ih := writeL_le sep r
    have := rowW_le sep x
    have e : writeL sep (x :: r) = rowW sep x ++ writeL sep r := by simp [writeL]
    rw [e, List.length_append, List.map_cons, List.sum_cons]
    omega
theorem bound_of (sep : UInt8) (rows : List (List (List UInt8))) (h : (rows.map rowWt).sum ≤ 1048576) : EndsBound sep rows := by
  refine ⟨?_, fun r hr => ?_, ?_⟩
  · have := len_sum (g := rowWt) (fun x => by unfold rowWt; omega) rows
    omega
  · have h1 := sum_mem (g := rowWt) hr
    have h2 : rowWt r = (r.map fun f => f.length + 1).sum + 1 := rfl
    have h3 := len_sum (g := fun f : List UInt8 => f.length + 1) (fun x => by omega) r
    refine ⟨by omega, fun f hf => ?_⟩
    have h4 : f.length + 1 ≤ (r.map fun f => f.length + 1).sum := sum_mem (g := fun f : List UInt8 => f.length + 1) hf
    omega
  · have := writeL_le sep rows
    omega

theorem ends_witness (os : Os) (H : Type) (enc : TypeId × Value → H) : ∃ (w : World) (tape : Tape) (i : Input), w.os = os ∧ (w.forCall tape i).Shaped Tryd.checked.prog ∧ i.vars = [] ∧ Input.okWide Tryd.checked.prog (w.forCall tape i) .any w.heap.size 3 i ∧
      (((Rows.OpenSpec.upto Rows.csvEndsSpec).pre enc Tryd.prog Tryd.f3 Rows.csvEndsUptoRow.domain false (w.forCall tape i).memory i.args ∧ laidMetH Tryd.prog Rows.csvEndsUptoRow.laid (w.forCall tape i).memory) ∧ sizedMet enc Tryd.prog Tryd.f3 (Rows.OpenSpec.upto Rows.csvEndsSpec) false (w.forCall tape i).memory i.args) ∧
      ({} : Assume).holds Tryd.checked.prog (lone (Frame.enter Tryd.checked.prog 3 i.args .normal) [] (w.forCall tape i)) := by
  obtain ⟨w, tape, i, a1, a2, a3, a4, ⟨⟨_, hl, hk⟩, hz⟩, a5⟩ := ChangeSpec.witness_shaped (s := Rows.csvEndsSpec) (f := 3) (fn := Tryd.f3) (conds := []) (enc := enc) (C := Tryd.checked) (os := os) (X := fun w args => laidMetH Tryd.prog Rows.csvEndsUptoRow.laid w ∧ ∃ ds gs before, DataW.Whole enc Tryd.prog Tryd.f3.params.toList [] false w args.toList ds gs before ∧ Rows.uptoSmall H (ds ++ gs) = true) false (World.laidAll Tryd.prog os Rows.csvEndsUptoRow.laid) #[.slice none 0 0, .int .u8 44] 8 (World.laidAll_os _ _ _)
      (World.shaped_of_ZipB (by kernel_rfl) (by kernel_rfl)) (by kernel_rfl) (by kernel_rfl) (by kernel_rfl)
      (by
        refine ⟨by rw [MakeChecks.laidMetH_plain _ _ _ (by kernel_rfl)]; exact laidMet_laidAll _ (by kernel_rfl) (by kernel_rfl), ?_⟩
        have hw : (DataW.whole enc Tryd.prog ((World.laidAll Tryd.prog os Rows.csvEndsUptoRow.laid).forCall (fun _ _ => 0) ⟨#[], #[.slice none 0 0, .int .u8 44], []⟩).memory Tryd.f3.params.toList [] false #[Value.slice none 0 0, .int .u8 44].toList 8).map (fun x => (x.1, x.2.1)) = some ([.nil, .lit (.int .u8 44)], []) := by kernel_rfl
        obtain ⟨⟨x1, x2, x3⟩, hx, hx1⟩ := Option.map_eq_some_iff.1 hw
        simp only [Prod.mk.injEq] at hx1
        obtain ⟨rfl, rfl⟩ := hx1
        exact ⟨_, _, _, DataW.Whole_of_whole hx, rfl⟩)
  obtain ⟨ds, gs, before, h1, h2⟩ := hk
  exact ⟨w, tape, i, a1, a2, a3, a4, ⟨⟨⟨ds, gs, before, h1, rfl, h2⟩, hl⟩, hz⟩, a5⟩

set_option maxRecDepth 100000 in
set_option maxHeartbeats 1000000 in
theorem ends_lifted (os : Os) (started : os.Started) (H : Type) (enc : TypeId × Value → H) :
    ReturnsInHanded {} Tryd.checked os 3 .any (fun w args => ((Rows.OpenSpec.upto Rows.csvEndsSpec).pre enc Tryd.prog Tryd.f3 Rows.csvEndsUptoRow.domain false w args ∧ laidMetH Tryd.prog Rows.csvEndsUptoRow.laid w) ∧ sizedMet enc Tryd.prog Tryd.f3 (Rows.OpenSpec.upto Rows.csvEndsSpec) false w args)
      (Rows.csvEndsSpec.post enc Tryd.prog Tryd.f3 false true false false) := by
  refine returnsInHanded_of_calls (C := Tryd.checked) own started (by kernel_rfl) (ends_witness os H enc) ?_
  intro w0 tape i _ hsh _ hok hpre _
  obtain ⟨_, _, _, fn', hfn', _, _, _, _, hval0⟩ := hok
  have e : fn' = Tryd.f3 := Option.some.inj (hfn'.symm.trans Tryd.func3)
  subst e
  obtain ⟨⟨⟨ds, gs, before, hw0, _, hkk⟩, _⟩, hz⟩ := hpre
  have hW := DataW.Whole.of_heap (w' := w0.forCall tape i) (by rfl) hw0
  suffices hmain : Calls Tryd.prog 3 i.args (w0.forCall tape i) (fun e W' => ∃ v, e = .returned v ∧ Rows.csvEndsSpec.post enc Tryd.prog Tryd.f3 false true false false (w0.forCall tape i) i.args v W') by
    refine hmain.mono fun e W' ⟨v, he, hp⟩ => ?_
    subst he
    exact ChangeSpec.post_blind hp
  generalize w0.forCall tape i = W at *
  obtain ⟨bl, args, vars⟩ := i
  have hval : ∀ (j : Nat) t v, Tryd.f3.params[j]? = some t → args[j]? = some v → Value.okWide Tryd.prog W .any w0.heap.size t v := hval0
  have hW' := hW
  obtain ⟨p, q, hA0, hV, rfl, hfz, hnd⟩ := hW
  have hA : DataW.TrodAll enc Tryd.prog W 0 (fun _ => true) true Tryd.f3.params.toList args.toList ds p := hA0
  rw [Tryd.params3] at hA hval
  obtain ⟨v0, v1, d0, d1, p0, p1, hv0, rfl, rfl, h0, h1⟩ := trodAll_two hA
  have hargs0 : args = #[v0, v1] := by cases args; simpa using hv0
  subst hargs0
  obtain ⟨rfl, rfl⟩ := trodVars_none hV
  obtain ⟨a0, len, cap, rfl⟩ := okWide_slice Tryd.underlying22 (hval 0 22 v0 rfl rfl)
  obtain ⟨c, rfl, rfl, rfl, wc⟩ := open_int Tryd.underlying5 (hval 1 5 v1 rfl rfl) h1
  have h0k := h0
  obtain ⟨fuel, hf⟩ := h0
  have hlt : ∀ x ∈ p0, x.block < W.heap.size := fun x hx => hW'.lt x (by simp [hx])
  clear hA0 hval0
  obtain ⟨m, hm⟩ := maxLen_cell hsh
  have hbig0 : 0 < W.heap.size := cell_lt hm
  have fin : ∀ W' : World, Below W.heap.size W W' → Rows.csvEndsSpec.post enc Tryd.prog Tryd.f3 false true false false W #[.slice a0 len cap, .int .u8 c] (.bool true) W' := by
    intro W' hb
    have hb1 := Below.trod laidOut (by kernel_rfl) (of_decide_eq_true (by kernel_rfl)) h0k hb hlt
    exact ⟨_, _, _, [], _, [], hW', trodAll_mk1 (shut_bool Tryd.underlying4 _), trodAll_mk2 hb1 (shut_int Tryd.underlying5 wc), rfl, hb.frame _, fun h => by cases h⟩
  obtain ⟨sep, rfl⟩ : ∃ sep : UInt8, c = (sep.toNat : Int) := by
    have e1 : IntKind.u8.min = 0 := rfl
    have e2 : IntKind.u8.max = 255 := rfl
    simp [Lit.wf, e1, e2] at wc
    refine ⟨UInt8.ofNat c.toNat, ?_⟩
    simp [UInt8.toNat_ofNat']
    omega
  have hbs : ∀ s : ByteArray, bas s.data.toList = s := by
    intro s
    apply ByteArray.ext
    simp [bas]
  have hwalk : ∃ rows : List (List (List UInt8)), RowsV W.heap.size W (.slice a0 len cap) (rows.map fun r => r.map bas) ∧ EndsBound sep rows := by
    rcases Deep.open_slice1 Tryd.underlying22 cells23 hf with ⟨hcs, hx⟩ | ⟨a, len', cap', mm, n, V, D, Pl, hcs, _, hl, _, hmm, hx, hcell⟩
    · simp [Value.cells] at hcs
      obtain ⟨rfl, rfl, rfl⟩ := hcs
      exact ⟨[], ⟨[], .inl ⟨⟨_, _, rfl⟩, rfl⟩, rfl, fun i sv row h => by simp at h⟩, bound_of sep [] (by simp)⟩
    · simp [Value.cells] at hcs
      obtain ⟨rfl, rfl, rfl⟩ := hcs
      simp only [if_true] at hmm
      simp only [Prod.mk.injEq] at hx
      obtain ⟨rfl, _⟩ := hx
      have hel : ∀ i, i < len → ∃ row : List (List UInt8), SliceV W.heap.size W (V i) (strs (row.map bas)) ∧ rowWt row ≤ Rows.uptoBulk (D i) := by
        intro i hi
        obtain ⟨_, ht⟩ := hcell i (by omega)
        rcases Deep.open_strs Tryd.underlying23 Tryd.underlying9 cells9 ht with ⟨h1, h2⟩ | ⟨a2, l2, c2, m2, Sx, h1, _, hl2, _, hm2, h2, hc2⟩
        · simp at h1
          simp only [Prod.mk.injEq] at h2
          exact ⟨[], .inl ⟨⟨_, _, h1⟩, rfl⟩, by rw [h2.1]; exact Nat.le_refl _⟩
        · simp at h1
          simp only [if_true] at hm2
          simp only [Prod.mk.injEq] at h2
          refine ⟨(List.range l2).map fun j => (Sx j).data.toList, ?_, ?_⟩
          · have hrow : ((List.range l2).map fun j => (Sx j).data.toList).map bas = (List.range l2).map Sx := by
              rw [List.map_map]
              exact List.map_congr_left fun j _ => hbs (Sx j)
            rw [hrow]
            by_cases h0 : l2 = 0
            · subst h0
              exact .inl ⟨⟨_, _, h1⟩, rfl⟩
            · obtain ⟨b, off, spot⟩ := a2
              have hc0 := (hc2 0 (by omega)).1
              have hspot : spot = none := by simpa [Addr.add] using World.cell?_spot hc0
              subst hspot
              have hbt : b < W.heap.size := by
                have := block_lt hc0
                simpa [Addr.add] using this
              refine .inr ⟨b, off, c2, by rw [h1]; simp [strs], hbt, fun j x hx => ?_⟩
              have hj : j < l2 := by have := (List.getElem?_eq_some_iff.1 hx).1; simpa [strs] using this
              simp [strs, hj] at hx
              subst hx
              rw [← add_plain]
              exact (hc2 j (by omega)).1
          · rw [h2.1]
            have := bulk_strs (H := H) ((List.range l2).map fun j => (Sx j).data.toList)
            rw [List.map_map] at this
            simp only [Rows.uptoBulk, rowWt]
            have e : (List.map (fun i => (DataW.lit (Lit.string (Sx i).data.toList) : DataW H)) (List.range l2)) = List.map ((fun b => (DataW.lit (.string b) : DataW H)) ∘ fun j => (Sx j).data.toList) (List.range l2) := rfl
            rw [e, this]
            omega
      obtain ⟨R, hR⟩ := Deep.choose_lt (α := List (List UInt8)) hel
      refine ⟨(List.range len).map R, ?_, bound_of sep _ ?_⟩
      · refine ⟨(List.range len).map V, ?_, by simp, ?_⟩
        · by_cases h0 : len = 0
          · subst h0
            exact .inl ⟨⟨_, _, rfl⟩, rfl⟩
          · obtain ⟨b, off, spot⟩ := a
            have hc0 := (hcell 0 (by omega)).1
            have hspot : spot = none := by simpa [Addr.add] using World.cell?_spot hc0
            subst hspot
            have hbt : b < W.heap.size := by
              have := block_lt hc0
              simpa [Addr.add] using this
            refine .inr ⟨b, off, cap, by simp, hbt, fun j x hx => ?_⟩
            have hj : j < len := by have := (List.getElem?_eq_some_iff.1 hx).1; simpa using this
            simp [hj] at hx
            subst hx
            rw [← add_plain]
            exact (hcell j (by omega)).1
        · intro i sv row h1 h2
          have hi : i < len := by have := (List.getElem?_eq_some_iff.1 h1).1; simpa using this
          simp [hi] at h1 h2
          subst h1; subst h2
          exact (hR i hi).1
      · have h1 := bulk_le (R := R) (D := D) (List.range len) (fun i hi => (hR i (List.mem_range.1 hi)).2)
        have h2 : Rows.uptoBulkAll ([DataW.slice ((List.range len).map D) ((List.range (mm - len)).map fun j => D (len + j)), (DataW.lit (.int .u8 (sep.toNat : Int)) : DataW H)] ++ []) ≤ 1048576 := by
          have := hkk
          simpa [Rows.uptoSmall] using this
        simp only [List.append_nil, Rows.uptoBulkAll, Rows.uptoBulk] at h2
        omega
  obtain ⟨rows, hrows, hbound⟩ := hwalk
  refine (ends_yes sep rows _ W.heap.size m W hrows (Nat.le_refl _) hm hbig0 hbound (fun al f c hf hl W => needs_clean al f c hf hl W)).mono ?_
  rintro e W' ⟨rfl, hb⟩
  exact ⟨_, rfl, fin W' hb⟩

theorem ends_holds : Rows.CsvEndsUptoSaid :=
  OpenClaim.holds_of_cond 3 Tryd.f3 rfl rfl rfl rfl rfl rfl rfl ⟨rfl, rfl, rfl, rfl, rfl⟩ rfl rfl rfl rfl rfl (by kernel_rfl) Tryd.func3 (by kernel_rfl)
    (of_decide_eq_true (by kernel_rfl)) (by unfold Func.isWrapper; first | (rw [if_pos (by decide +kernel)]; kernel_rfl) | (rw [if_neg (by decide +kernel)]; exact ⟨rfl, rfl⟩))
    (fun os started H enc _ _ => ends_lifted os started H enc)
theorem csvEndsUpto_card : Rows.CsvEndsUptoCardSaid :=
  Claim7.holds_tied_plain_at .later [] [.data, .pinned] true (true, "e992dab0d041b04c05cc203303af6a77898ab45e6cd18e70e7be04fcd546c37d") false ends_holds (fun _ h => by cases h) (by kernel_rfl) (fun _ h => by cases h) csvEndsUpto_row_tie rfl ⟨rfl, rfl⟩ (by kernel_rfl) rfl
    (fun f fn hf hfn => by
      obtain rfl : f = 3 := Option.some.inj ((show Tryd.prog.funcNamed "foolscap/foolscaplaw29.CsvEnds" = some 3 by kernel_rfl).symm.trans hf) |>.symm
      obtain rfl : fn = Tryd.f3 := (Option.some.inj (Tryd.func3.symm.trans hfn)).symm
      exact ⟨by kernel_rfl, fun j t ht => by
        rw [Tryd.params3] at ht
        have hm : t ∈ [22, 5] := by simpa using Array.mem_of_getElem? ht
        have hall : ([22, 5].all fun u => !Tryd.prog.wantsStandIn u) = true := by kernel_rfl
        exact (show Tryd.prog.wantsStandIn t = false by simpa using List.all_eq_true.1 hall t hm)⟩)
    (by kernel_rfl)
end Go.Proofs.YtpkdnmjcommbmaaDoor
