/- The iterator over the fields of a row: what it hands on. -/
import Derived.Test.YtpkdnmjcommbmaaDoorField
import Derived.Test.YtpkdnmjcommbmaaDoorMid
import Derived.RangeFuncNested
import Derived.RangeFuncBound
import Derived.RangeFuncCalls
import Derived.RangeFuncLeaves
import Derived.Sort.QuietIn
import Derived.OwnWalkIn
import Derived.TacticsInMore
import Derived.LoopNIn
import Derived.LoopIn
namespace Go.Proofs.YtpkdnmjcommbmaaDoor
open Go.RowKit Go.Shelf
attribute [local go_sem] Oper.semAt_some
theorem wide_fn (f : FuncId) : Fence.wide.fn f = True := rfl
attribute [local simp, local go_sem] wide_fn

/-- One field: what it reads, whether it is broken, and what is left behind it (or at the break). -/
def fieldL (sep : UInt8) (l : List UInt8) : List UInt8 × Bool × List UInt8 :=
  if l.head? = some 34 then
    match quotedL (l.length + 1) l.tail with
    | none => ([], true, [])
    | some (f, r) => (f, false, r)
  else
    if (l.drop (plainF sep l).length).head? = some 34 then ([], true, l.drop (plainF sep l).length)
    else (plainF sep l, false, l.drop (plainF sep l).length)
/-- The fields of a row. -/
def rowL : Nat → UInt8 → List UInt8 → List (List UInt8) × Bool × List UInt8
  | 0, _, l => ([], true, l)
  | n + 1, sep, l =>
    if (fieldL sep l).2.1 then ([], true, (fieldL sep l).2.2)
    else if (fieldL sep l).2.2.head? = some sep then
      ((fieldL sep l).1 :: (rowL n sep (fieldL sep l).2.2.tail).1, (rowL n sep (fieldL sep l).2.2.tail).2)
    else ([(fieldL sep l).1], false, (fieldL sep l).2.2)

theorem rowL_bad {n : Nat} {sep : UInt8} {l f r : List UInt8} (hn : 0 < n) (h : fieldL sep l = (f, true, r)) : rowL n sep l = ([], true, r) := by
  obtain ⟨n, rfl⟩ : ∃ m, n = m + 1 := ⟨n - 1, by omega⟩
  simp [rowL, h]
theorem rowL_stop {n : Nat} {sep : UInt8} {l f r : List UInt8} (hn : 0 < n) (h : fieldL sep l = (f, false, r)) (hr : r.head? ≠ some sep) : rowL n sep l = ([f], false, r) := by
  obtain ⟨n, rfl⟩ : ∃ m, n = m + 1 := ⟨n - 1, by omega⟩
  simp [rowL, h, hr]
theorem rowL_go {n : Nat} {sep : UInt8} {l f r : List UInt8} (h : fieldL sep l = (f, false, r)) (hr : r.head? = some sep) : rowL (n + 1) sep l = (f :: (rowL n sep r.tail).1, (rowL n sep r.tail).2) := by
  simp [rowL, h, hr]
/-- The reader behind a row: broken at r's begin, or r is left. -/
def RdOut (R : Nat) (s : ByteArray) (sep : Int) (bad : Bool) (r : List UInt8) (w : World) : Prop :=
  if bad then ∃ a, RdAt R s a sep (s.size - r.length) w else RdAt R s (s.size - r.length) sep (-1) w

/-- How many bytes are left, by the reader's cell. -/
def rdLeft (R : Nat) (s : ByteArray) (w : World) : Nat :=
  match w.cell? ⟨R, 1, none⟩ with
  | some v => s.size - (intOf v).toNat
  | none => 0

theorem cell_lt {w : World} {b o : Nat} {v : Value} (h : w.cell? ⟨b, o, none⟩ = some v) : b < w.heap.size := by
  unfold World.cell? at h
  rcases Nat.lt_or_ge b w.heap.size with h1 | h1
  · exact h1
  · rw [Array.getElem?_eq_none (by simpa using h1)] at h; cases h
theorem drop_cons (s : ByteArray) (p : Nat) (h : p < s.size) : s.data.toList.drop p = s[p] :: s.data.toList.drop (p + 1) := by
  rw [List.drop_eq_getElem_cons (by simpa using h)]; rfl
theorem rdLeft_eq {R : Nat} {s : ByteArray} {p : Nat} {sep bad : Int} {w : World} (h : RdAt R s p sep bad w) : rdLeft R s w = s.size - p := by
  unfold rdLeft
  rw [h.cells.1.2.1]; simp [intOf]
theorem fieldL_quoted_bad {sep : UInt8} {l : List UInt8} (h : l.head? = some 34) (hq : quotedL (l.length + 1) l.tail = none) : fieldL sep l = ([], true, []) := by
  simp [fieldL, h, hq]
theorem fieldL_quoted {sep : UInt8} {l f r : List UInt8} (h : l.head? = some 34) (hq : quotedL (l.length + 1) l.tail = some (f, r)) : fieldL sep l = (f, false, r) := by
  simp [fieldL, h, hq]
theorem fieldL_plain_bad {sep : UInt8} {l : List UInt8} (h : l.head? ≠ some 34) (hb : (l.drop (plainF sep l).length).head? = some 34) : fieldL sep l = ([], true, l.drop (plainF sep l).length) := by
  unfold fieldL; rw [if_neg h, if_pos hb]
theorem fieldL_plain {sep : UInt8} {l : List UInt8} (h : l.head? ≠ some 34) (hb : (l.drop (plainF sep l).length).head? ≠ some 34) : fieldL sep l = (plainF sep l, false, l.drop (plainF sep l).length) := by
  unfold fieldL; rw [if_neg h, if_neg hb]
theorem head_prefix {l : List UInt8} {c : UInt8} : Lib.hasPrefix l [c] = decide (l.head? = some c) := by
  cases l with
  | nil => rfl
  | cons x r =>
    by_cases h : x = c
    · subst h; simp [Lib.hasPrefix]
    · have : ¬ c = x := fun e => h e.symm
      simp [Lib.hasPrefix, List.isPrefixOf, h, this]
/-- What a round keeps. -/
def KeepsR (R C : Nat) (w w' : World) : Prop := w.heap.size ≤ w'.heap.size ∧ ∀ k, k = 0 ∨ k = R ∨ k = C → w'.heap[k]? = w.heap[k]?

set_option maxHeartbeats 2000000 in
theorem fields1_in (s : ByteArray) (sep : UInt8) (m : Int) (R C l p0 : Nat) (FS : List (List UInt8)) (BAD : Bool) (RR : List UInt8) (J : List (List UInt8) → World → Prop)
    (hs : s.size < 4294967281) (hp0 : p0 ≤ s.size) (hrow : rowL (s.size + 1) sep (s.data.toList.drop p0) = (FS, BAD, RR))
    (hJ : ∀ pre W W', J pre W → Keep R W W' → J pre W')
    (hY : ∀ pre f W, J pre W → pre.length ≤ s.size → YieldAt Fence.wide 0 Tryd.prog l #[.string ⟨f.toArray⟩] W fun e W' => e = .returned (.bool true) ∧ J (pre ++ [f]) W' ∧ KeepsR R C W W')
    (w : World) (hA : RdAt R s p0 sep.toNat (-1) w) (hC : w.heap[C]? = some (.cells #[.pointer (some ⟨R, 0, none⟩)] 48 (0, 0))) (hm : w.cell? ⟨0, 0, none⟩ = some (.int .i64 m))
    (hR : 0 < R) (hRC : R ≠ C) (h0 : J [] w) :
    CallsIn Fence.wide 1 Tryd.prog 24 #[.func (.yield l) #[] #[], .pointer (some ⟨C, 0, none⟩)] w fun e W' => (∃ v, e = .returned v) ∧ J FS W' ∧ RdOut R s sep.toNat BAD RR W' := by
  have HROW := hid hrow
  clear hrow
  refine callsIn_of_wp Tryd.func24 rfl trivial ?_
  simp only [Tryd.ntmps24, List.size_toArray, List.length_cons, List.length_nil, Nat.reduceAdd, Nat.reduceSub, Array.replicate_succ, Array.replicate_zero, List.push_toArray, List.append_toArray, List.nil_append, List.cons_append]
  gi_wp2
  gi_loopw [3] (fun v wr => ∃ (pre : List (List UInt8)) (p n : Nat), p ≤ s.size ∧ pre.length ≤ p ∧ s.size < p + n ∧ RdAt R s p sep.toNat (-1) wr ∧ wr.heap[C]? = some (.cells #[.pointer (some ⟨R, 0, none⟩)] 48 (0, 0)) ∧
      wr.cell? ⟨0, 0, none⟩ = some (.int .i64 m) ∧ J pre wr ∧ Hid ((FS, BAD, RR) = (pre ++ (rowL n sep (s.data.toList.drop p)).1, (rowL n sep (s.data.toList.drop p)).2))) (fun _ wr => rdLeft R s wr)
  case atStart =>
    exact ⟨[], p0, s.size + 1, hp0, Nat.zero_le _, by omega, hA, hC, hm, h0, HROW.out.symm⟩
  case round =>
    obtain ⟨pre, p, n, hp, hprl, hn, hA', hC', hm', hJs, HP⟩ := hrel
    obtain ⟨⟨kc0, kc1, kc2, kc3⟩, kf1, kf3⟩ := hA'.cells
    have HA := hid hA'
    clear hA'
    have hcC : wr.cell? ⟨C, 0, none⟩ = some (.pointer (some ⟨R, 0, none⟩)) := by rw [Lib.cell_of_heap hC']; rfl
    have HC := hid hC'
    clear hC'
    have hex := extract_list s p
    by_cases hq : (s.data.toList.drop p).head? = some 34
    · have hpfx : Hid (Lib.hasPrefix (s.data.toList.drop p) [34] = true) := hid (by cases hl : s.data.toList.drop p with | nil => rw [hl] at hq; cases hq | cons x r => rw [hl] at hq; simp at hq; subst hq; simp [Lib.hasPrefix])
      have HQ := hid hq
      clear hq
      have hplt : p < s.size := by
        rcases Nat.lt_or_ge p s.size with h | h
        · exact h
        · exfalso; have h2 := HQ.out; rw [List.drop_eq_nil_of_le (by simpa using h)] at h2; cases h2
      gi_wp2_with fail
      gi_quiet ((exact callsIn_wide.2 (Calls.quiet_of_same (hasPrefix_q _ _ _ hpfx.out _))))
      gi_wp2_with fail
      refine (callsIn_wide.2 (quoted_any R s p sep.toNat (-1) m (wr.drewN nq) HA.out hplt hs hm' hR)).mono ?_
      generalize hqq : quotedL (s.size + 1) (s.data.toList.drop (p + 1)) = qq
      have HQQ := hid hqq
      clear hqq
      intro e w1 hpost
      cases qq with
      | none =>
        obtain ⟨rfl, hA1, hk1⟩ := hpost
        have hkw : Keep R wr w1 := Keep.trans (b := wr.drewN nq) ((Keep.refl R wr).drewN nq) hk1
        have HF : Hid (fieldL sep (s.data.toList.drop p) = ([], true, [])) := hid (by
          refine fieldL_quoted_bad HQ.out ?_
          rw [List.tail_drop, ← quotedL_enough (m := s.size + 1) (by simp; try omega) (by simp; try omega)]; exact HQQ.out)
        have HB : Hid (RdAt R s p sep.toNat (s.size - ([] : List UInt8).length) w1) := hid (by simpa using hA1)
        obtain ⟨⟨gc0, gc1, gc2, gc3⟩, gf1, gf3⟩ := hA1.cells
        have hC1 := hkw.block C (by have := (Array.getElem?_eq_some_iff.1 HC.out).1; simpa using this) (Ne.symm hRC)
        have gcC : w1.cell? ⟨C, 0, none⟩ = some (.pointer (some ⟨R, 0, none⟩)) := by rw [Lib.cell_of_heap (hC1.trans HC.out)]; rfl
        gi_wp2_with fail
        gi_quiet (fail)
        gi_wp2_with fail
        refine bodyPost_ret (results_none rfl _ _ _) rfl ?_
        have hP := HP.out
        rw [rowL_bad (by omega) HF.out] at hP
        simp only [Prod.mk.injEq, List.append_nil] at hP
        obtain ⟨rfl, rfl, rfl⟩ := hP
        exact ⟨⟨_, rfl⟩, hJ _ _ _ (hJ _ _ _ hJs hkw) ((Keep.refl R w1).drewN _), _, HB.out⟩
      | some q =>
        obtain ⟨f, r⟩ := q
        obtain ⟨rfl, hA0, hk1⟩ := hpost
        have hkw : Keep R wr w1 := Keep.trans (b := wr.drewN nq) ((Keep.refl R wr).drewN nq) hk1
        obtain ⟨p1, hp1, hpp1, hr1, HF⟩ : ∃ p1, p1 ≤ s.size ∧ p ≤ p1 ∧ Hid (s.data.toList.drop p1 = r) ∧ Hid (fieldL sep (s.data.toList.drop p) = (f, false, r)) := by
          obtain ⟨q, hq1, hq2⟩ := quotedL_suffix HQQ.out
          have hl1 : (s.data.toList.drop (p + 1)).length = q.length + (r.length + 1) := by rw [hq1]; simp
          simp at hl1
          refine ⟨s.size - r.length, by omega, by omega, hid ?_, hid ?_⟩
          · have h5 : s.data.toList.drop (s.size - r.length) = (s.data.toList.drop (p + 1)).drop (q.length + 1) := by
              rw [List.drop_drop]; congr 1; omega
            rw [h5, hq1]; simp
          · refine fieldL_quoted HQ.out ?_
            rw [List.tail_drop, ← quotedL_enough (m := s.size + 1) (by simp; try omega) (by simp; try omega)]; exact HQQ.out
        have hA1 : RdAt R s p1 sep.toNat (-1) w1 := by
          have h1 := hr1.out
          have h2 : (r.length : Int) = s.size - p1 := by rw [← h1]; simp; omega
          rw [h2] at hA0
          have h3 : (s.size : Int) - (s.size - p1) = p1 := by omega
          rw [h3] at hA0
          exact hA0
        obtain ⟨⟨gc0, gc1, gc2, gc3⟩, gf1, gf3⟩ := hA1.cells
        have hC1 := hkw.block C (by have := (Array.getElem?_eq_some_iff.1 HC.out).1; exact this) (Ne.symm hRC)
        have gcC : w1.cell? ⟨C, 0, none⟩ = some (.pointer (some ⟨R, 0, none⟩)) := by rw [Lib.cell_of_heap (hC1.trans HC.out)]; rfl
        have hJ1 : J pre w1 := hJ _ _ _ hJs hkw
        gi_wp2_with fail
        refine Mid.wpIn_region_mid 8 rfl (by kernel_rfl) (by kernel_rfl) (by kernel_rfl) (by kernel_rfl) (by kernel_rfl) (by kernel_rfl) (fun w' => ∃ n, w' = w1.drewN n) ⟨1, rfl⟩ ?_
        simp only [List.extract_toArray, List.extract, Nat.sub_zero, List.drop_zero, List.take_succ_cons, List.take_zero, List.drop_succ_cons]
        repeat (gi_big_quiet_step (fail))
        refine wpQuietIn_nil ?_
        rintro _ ⟨n2, rfl⟩
        refine wpOpIn_step rfl ?_
        intro K' hK'
        obtain ⟨fn, tmps, assign, body, hy, hRd⟩ := hY pre f (w1.drewN n2) (hJ _ _ _ hJ1 ((Keep.refl R w1).drewN n2)) (by omega)
        go_simp
        refine hRd.mono ?_
        rintro e w2 ⟨rfl, hJ2, hk2⟩
        refine hK' _ _ ⟨fun w' => ∃ n, w' = w2.drewN n, ⟨0, rfl⟩, ?_⟩
        clear hK' K' hRd hy
        have hA2 : RdAt R s p1 sep.toNat (-1) w2 := (hk2.2 R (.inr (.inl rfl))).trans hA1
        have hC2 : w2.heap[C]? = some (.cells #[.pointer (some ⟨R, 0, none⟩)] 48 (0, 0)) := (hk2.2 C (.inr (.inr rfl))).trans (hC1.trans HC.out)
        have hm2 : w2.cell? ⟨0, 0, none⟩ = some (.int .i64 m) := (World.cell?_of_block (w := w1) (a := ⟨0, 0, none⟩) (hk2.2 0 (.inl rfl))).trans (hkw.cell (cell_lt hm') (by omega) hm')
        obtain ⟨⟨jc0, jc1, jc2, jc3⟩, jf1, jf3⟩ := hA2.cells
        have jcC : w2.cell? ⟨C, 0, none⟩ = some (.pointer (some ⟨R, 0, none⟩)) := by rw [Lib.cell_of_heap hC2]; rfl
        have HA2 := hid hA2
        have HC2 := hid hC2
        clear hA2 hC2 hA1
        by_cases hpe : p1 = s.size
        · have hr2 : Hid (r.head? ≠ some sep) := hid (by rw [← hr1.out, List.drop_eq_nil_of_le (by simp; omega)]; simp)
          subst hpe
          repeat (gi_big_quiet_step (fail))
          refine wpQuietIn_nil ?_
          rintro _ ⟨n3, rfl⟩
          gi_wp2_with fail
          refine bodyPost_ret (results_none rfl _ _ _) rfl ?_
          have hP := HP.out
          rw [rowL_stop (by omega) HF.out hr2.out] at hP
          simp only [Prod.mk.injEq] at hP
          obtain ⟨rfl, rfl, rfl⟩ := hP
          refine ⟨⟨_, rfl⟩, hJ _ _ _ hJ2 ((Keep.refl R w2).drewN n3), ?_⟩
          have h2 : (RR.length : Int) = 0 := by rw [← hr1.out]; simp
          show RdAt R s (s.size - RR.length) sep.toNat (-1) _
          rw [h2, Int.sub_zero]; exact HA2.out
        · have hplt1 : p1 < s.size := by omega
          have e1 : ((p1 : Int) == s.size) = false := by rw [beq_eq_false_iff_ne]; omega
          clear hpe
          have hcons := drop_cons s p1 hplt1
          rw [hr1.out] at hcons
          have HCONS := hid hcons
          clear hcons
          by_cases hse : (s[p1]'hplt1) = sep
          · have hr2 : Hid (r.head? = some sep) := hid (by rw [HCONS.out, ← hse]; rfl)
            have hr3 : Hid (r.tail = s.data.toList.drop (p1 + 1)) := hid (by rw [HCONS.out]; rfl)
            repeat (gi_big_quiet_step (fail))
            refine wpQuietIn_nil ?_
            rintro _ ⟨n3, rfl⟩
            gi_wp2_with fail
            go_roundw
            case rel =>
              obtain ⟨n, rfl⟩ : ∃ k, n = k + 1 := ⟨n - 1, by omega⟩
              have hP := HP.out
              rw [rowL_go HF.out hr2.out, hr3.out] at hP
              have hk3 : Keep R w2 ((w2.drewN n3).setCell ⟨R, 1, none⟩ (.int .i64 (p1 + 1))) := ((Keep.refl R w2).drewN n3).setCell 1 _
              refine ⟨pre ++ [f], p1 + 1, n, by omega, by simp; omega, by omega, ?_, ?_, hk3.cell (cell_lt hm2) (by omega) hm2, hJ _ _ _ hJ2 hk3, ?_⟩
              · have := RdAt.setAt (w := w2.drewN n3) HA2.out ((p1 : Int) + 1)
                simpa using this
              · exact (hk3.block C (Array.getElem?_eq_some_iff.1 HC2.out).1 (Ne.symm hRC)).trans HC2.out
              · unfold Hid; rw [hP]; simp
            case measure =>
              have hA3 := RdAt.setAt (w := w2.drewN n3) HA2.out ((p1 : Int) + 1)
              have e3 : ((p1 : Int) + 1) = ((p1 + 1 : Nat) : Int) := by omega
              rw [e3] at hA3 ⊢
              rw [rdLeft_eq hA3, rdLeft_eq HA.out]
              omega
          · have hr2 : Hid (r.head? ≠ some sep) := hid (by rw [HCONS.out]; simpa using hse)
            have e2 : ((((s[p1]'hplt1).toNat : Nat) : Int) != sep.toNat) = true := by
              rw [bne_iff_ne]; intro h; apply hse; have : (s[p1]'hplt1).toNat = sep.toNat := by omega
              exact UInt8.toNat_inj.1 this
            clear hse
            repeat (gi_big_quiet_step (fail))
            refine wpQuietIn_nil ?_
            rintro _ ⟨n3, rfl⟩
            gi_wp2_with fail
            refine bodyPost_ret (results_none rfl _ _ _) rfl ?_
            have hP := HP.out
            rw [rowL_stop (by omega) HF.out hr2.out] at hP
            simp only [Prod.mk.injEq] at hP
            obtain ⟨rfl, rfl, rfl⟩ := hP
            refine ⟨⟨_, rfl⟩, hJ _ _ _ hJ2 ((Keep.refl R w2).drewN n3), ?_⟩
            have h2 : (RR.length : Int) = s.size - p1 := by rw [← hr1.out]; simp; omega
            have h3 : (s.size : Int) - (s.size - p1) = p1 := by omega
            show RdAt R s (s.size - RR.length) sep.toNat (-1) _
            rw [h2, h3]; exact HA2.out
    · have hpfx : Hid (Lib.hasPrefix (s.data.toList.drop p) [34] = false) := hid (by rw [head_prefix]; simpa using hq)
      have HQ := hid hq
      clear hq
      generalize hfe : plainF sep (s.data.toList.drop p) = f
      generalize hib : decide ((s.data.toList.drop (p + f.length)).head? = some 34) = isBad
      have hfl : p + f.length ≤ s.size := by
        have h1 : plainF sep (s.data.toList.drop p) <+: s.data.toList.drop p := (tw_prefix _).trans (List.takeWhile_prefix _)
        have h2 := h1.length_le
        rw [hfe] at h2; simp at h2; omega
      have HFE := hid hfe
      have HIB := hid hib
      clear hfe hib
      gi_wp2_with fail
      gi_quiet ((exact callsIn_wide.2 (Calls.quiet_of_same (hasPrefix_q _ _ _ hpfx.out _))))
      gi_wp2_with fail
      refine (callsIn_wide.2 (plain_any R s p sep (-1) (wr.drewN nq) HA.out hp (by omega) isBad (hid (by rw [HFE.out, head_prefix]; exact HIB.out)))).mono ?_
      rintro e w1 ⟨hk1, hpost⟩
      rw [HFE.out] at hpost
      have hkw : Keep R wr w1 := Keep.trans (b := wr.drewN nq) ((Keep.refl R wr).drewN nq) hk1
      cases isBad
      · obtain ⟨rfl, hA0⟩ := hpost
        obtain ⟨p1, hp1, hpp1, hA1, r, hr1, HF⟩ : ∃ p1, p1 ≤ s.size ∧ p ≤ p1 ∧ RdAt R s (p1 : Nat) sep.toNat (-1) w1 ∧ ∃ r, Hid (s.data.toList.drop p1 = r) ∧ Hid (fieldL sep (s.data.toList.drop p) = (f, false, r)) := by
          refine ⟨p + f.length, hfl, by omega, by simpa using hA0, _, hid rfl, hid ?_⟩
          have h1 := HFE.out
          have h2 : ((s.data.toList.drop p).drop (plainF sep (s.data.toList.drop p)).length).head? ≠ some 34 := by
            rw [h1, List.drop_drop]; simpa using HIB.out
          rw [fieldL_plain HQ.out h2, h1, List.drop_drop]
        obtain ⟨⟨gc0, gc1, gc2, gc3⟩, gf1, gf3⟩ := hA1.cells
        have hC1 := hkw.block C (by have := (Array.getElem?_eq_some_iff.1 HC.out).1; exact this) (Ne.symm hRC)
        have gcC : w1.cell? ⟨C, 0, none⟩ = some (.pointer (some ⟨R, 0, none⟩)) := by rw [Lib.cell_of_heap (hC1.trans HC.out)]; rfl
        have hJ1 : J pre w1 := hJ _ _ _ hJs hkw
        gi_wp2_with fail
        refine Mid.wpIn_region_mid 8 rfl (by kernel_rfl) (by kernel_rfl) (by kernel_rfl) (by kernel_rfl) (by kernel_rfl) (by kernel_rfl) (fun w' => ∃ n, w' = w1.drewN n) ⟨1, rfl⟩ ?_
        simp only [List.extract_toArray, List.extract, Nat.sub_zero, List.drop_zero, List.take_succ_cons, List.take_zero, List.drop_succ_cons]
        repeat (gi_big_quiet_step (fail))
        refine wpQuietIn_nil ?_
        rintro _ ⟨n2, rfl⟩
        refine wpOpIn_step rfl ?_
        intro K' hK'
        obtain ⟨fn, tmps, assign, body, hy, hRd⟩ := hY pre f (w1.drewN n2) (hJ _ _ _ hJ1 ((Keep.refl R w1).drewN n2)) (by omega)
        go_simp
        refine hRd.mono ?_
        rintro e w2 ⟨rfl, hJ2, hk2⟩
        refine hK' _ _ ⟨fun w' => ∃ n, w' = w2.drewN n, ⟨0, rfl⟩, ?_⟩
        clear hK' K' hRd hy
        have hA2 : RdAt R s p1 sep.toNat (-1) w2 := (hk2.2 R (.inr (.inl rfl))).trans hA1
        have hC2 : w2.heap[C]? = some (.cells #[.pointer (some ⟨R, 0, none⟩)] 48 (0, 0)) := (hk2.2 C (.inr (.inr rfl))).trans (hC1.trans HC.out)
        have hm2 : w2.cell? ⟨0, 0, none⟩ = some (.int .i64 m) := (World.cell?_of_block (w := w1) (a := ⟨0, 0, none⟩) (hk2.2 0 (.inl rfl))).trans (hkw.cell (cell_lt hm') (by omega) hm')
        obtain ⟨⟨jc0, jc1, jc2, jc3⟩, jf1, jf3⟩ := hA2.cells
        have jcC : w2.cell? ⟨C, 0, none⟩ = some (.pointer (some ⟨R, 0, none⟩)) := by rw [Lib.cell_of_heap hC2]; rfl
        have HA2 := hid hA2
        have HC2 := hid hC2
        clear hA2 hC2 hA1
        by_cases hpe : p1 = s.size
        · have hr2 : Hid (r.head? ≠ some sep) := hid (by rw [← hr1.out, List.drop_eq_nil_of_le (by simp; omega)]; simp)
          subst hpe
          repeat (gi_big_quiet_step (fail))
          refine wpQuietIn_nil ?_
          rintro _ ⟨n3, rfl⟩
          gi_wp2_with fail
          refine bodyPost_ret (results_none rfl _ _ _) rfl ?_
          have hP := HP.out
          rw [rowL_stop (by omega) HF.out hr2.out] at hP
          simp only [Prod.mk.injEq] at hP
          obtain ⟨rfl, rfl, rfl⟩ := hP
          refine ⟨⟨_, rfl⟩, hJ _ _ _ hJ2 ((Keep.refl R w2).drewN n3), ?_⟩
          have h2 : (RR.length : Int) = 0 := by rw [← hr1.out]; simp
          show RdAt R s (s.size - RR.length) sep.toNat (-1) _
          rw [h2, Int.sub_zero]; exact HA2.out
        · have hplt1 : p1 < s.size := by omega
          have e1 : ((p1 : Int) == s.size) = false := by rw [beq_eq_false_iff_ne]; omega
          clear hpe
          have hcons := drop_cons s p1 hplt1
          rw [hr1.out] at hcons
          have HCONS := hid hcons
          clear hcons
          by_cases hse : (s[p1]'hplt1) = sep
          · have hr2 : Hid (r.head? = some sep) := hid (by rw [HCONS.out, ← hse]; rfl)
            have hr3 : Hid (r.tail = s.data.toList.drop (p1 + 1)) := hid (by rw [HCONS.out]; rfl)
            repeat (gi_big_quiet_step (fail))
            refine wpQuietIn_nil ?_
            rintro _ ⟨n3, rfl⟩
            gi_wp2_with fail
            go_roundw
            case rel =>
              obtain ⟨n, rfl⟩ : ∃ k, n = k + 1 := ⟨n - 1, by omega⟩
              have hP := HP.out
              rw [rowL_go HF.out hr2.out, hr3.out] at hP
              have hk3 : Keep R w2 ((w2.drewN n3).setCell ⟨R, 1, none⟩ (.int .i64 (p1 + 1))) := ((Keep.refl R w2).drewN n3).setCell 1 _
              refine ⟨pre ++ [f], p1 + 1, n, by omega, by simp; omega, by omega, ?_, ?_, hk3.cell (cell_lt hm2) (by omega) hm2, hJ _ _ _ hJ2 hk3, ?_⟩
              · have := RdAt.setAt (w := w2.drewN n3) HA2.out ((p1 : Int) + 1)
                simpa using this
              · exact (hk3.block C (Array.getElem?_eq_some_iff.1 HC2.out).1 (Ne.symm hRC)).trans HC2.out
              · unfold Hid; rw [hP]; simp
            case measure =>
              have hA3 := RdAt.setAt (w := w2.drewN n3) HA2.out ((p1 : Int) + 1)
              have e3 : ((p1 : Int) + 1) = ((p1 + 1 : Nat) : Int) := by omega
              rw [e3] at hA3 ⊢
              rw [rdLeft_eq hA3, rdLeft_eq HA.out]
              omega
          · have hr2 : Hid (r.head? ≠ some sep) := hid (by rw [HCONS.out]; simpa using hse)
            have e2 : ((((s[p1]'hplt1).toNat : Nat) : Int) != sep.toNat) = true := by
              rw [bne_iff_ne]; intro h; apply hse; have : (s[p1]'hplt1).toNat = sep.toNat := by omega
              exact UInt8.toNat_inj.1 this
            clear hse
            repeat (gi_big_quiet_step (fail))
            refine wpQuietIn_nil ?_
            rintro _ ⟨n3, rfl⟩
            gi_wp2_with fail
            refine bodyPost_ret (results_none rfl _ _ _) rfl ?_
            have hP := HP.out
            rw [rowL_stop (by omega) HF.out hr2.out] at hP
            simp only [Prod.mk.injEq] at hP
            obtain ⟨rfl, rfl, rfl⟩ := hP
            refine ⟨⟨_, rfl⟩, hJ _ _ _ hJ2 ((Keep.refl R w2).drewN n3), ?_⟩
            have h2 : (RR.length : Int) = s.size - p1 := by rw [← hr1.out]; simp; omega
            have h3 : (s.size : Int) - (s.size - p1) = p1 := by omega
            show RdAt R s (s.size - RR.length) sep.toNat (-1) _
            rw [h2, h3]; exact HA2.out
      · obtain ⟨rfl, hA1⟩ := hpost
        obtain ⟨r, hr1⟩ : ∃ r, s.data.toList.drop (p + f.length) = r := ⟨_, rfl⟩
        have HF : Hid (fieldL sep (s.data.toList.drop p) = ([], true, r)) := hid (by
          have h1 := HFE.out
          have h2 : ((s.data.toList.drop p).drop (plainF sep (s.data.toList.drop p)).length).head? = some 34 := by
            rw [h1, List.drop_drop]; simpa using HIB.out
          rw [fieldL_plain_bad HQ.out h2, h1, List.drop_drop, hr1])
        have HB : Hid (RdAt R s ((p : Int) + f.length) sep.toNat (s.size - r.length) w1) := hid (by
          have h2 : (r.length : Int) = s.size - (p + f.length) := by rw [← hr1]; simp; omega
          have h3 : (s.size : Int) - (s.size - (p + f.length)) = p + f.length := by omega
          rw [h2, h3]; exact hA1)
        clear hr1
        have hnn : (0 : Int) ≤ (p : Int) + f.length := by omega
        have hnd : decide ((0 : Int) ≤ (p : Int) + f.length) = true := by simpa using hnn
        obtain ⟨⟨gc0, gc1, gc2, gc3⟩, gf1, gf3⟩ := hA1.cells
        have hC1 := hkw.block C (by have := (Array.getElem?_eq_some_iff.1 HC.out).1; simpa using this) (Ne.symm hRC)
        have gcC : w1.cell? ⟨C, 0, none⟩ = some (.pointer (some ⟨R, 0, none⟩)) := by rw [Lib.cell_of_heap (hC1.trans HC.out)]; rfl
        gi_wp2_with fail
        gi_quiet (fail)
        gi_wp2_with fail
        refine bodyPost_ret (results_none rfl _ _ _) rfl ?_
        have hP := HP.out
        rw [rowL_bad (by omega) HF.out] at hP
        simp only [Prod.mk.injEq, List.append_nil] at hP
        obtain ⟨rfl, rfl, rfl⟩ := hP
        exact ⟨⟨_, rfl⟩, hJ _ _ _ (hJ _ _ _ hJs hkw) ((Keep.refl R w1).drewN _), _, HB.out⟩
end Go.Proofs.YtpkdnmjcommbmaaDoor
