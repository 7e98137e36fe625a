/- place.Parse: the walk. -/
import Derived.Test.YtgfgbihcapkikaaDoorCutter
import Derived.Lib.SmallJoins
namespace Go.Proofs.YtgfgbihcapkikaaDoor
open Go.RowKit

def fcN (l : List UInt8) : Nat := cutN p_d1 1 l
def r1 (l : List UInt8) : List UInt8 := l.drop (fcN l)
def ltN (l : List UInt8) : Nat := cutN p_d3 l.length (r1 l)
def lts (l : List UInt8) : List UInt8 := (r1 l).take (ltN l)
def r2 (l : List UInt8) : List UInt8 := (r1 l).drop (ltN l)
def frN (l : List UInt8) : Nat := cutN p_d1 1 (r2 l)
def r3 (l : List UInt8) : List UInt8 := (r2 l).drop (frN l)
def dgN (l : List UInt8) : Nat := cutN p_d2 l.length (r3 l)
def dgs (l : List UInt8) : List UInt8 := (r3 l).take (dgN l)
def r4 (l : List UInt8) : List UInt8 := (r3 l).drop (dgN l)
theorem r1_le (l : List UInt8) : (r1 l).length ≤ l.length := by unfold r1; rw [List.length_drop]; omega
theorem r2_le (l : List UInt8) : (r2 l).length ≤ l.length := by have := r1_le l; unfold r2; rw [List.length_drop]; omega
theorem r3_le (l : List UInt8) : (r3 l).length ≤ l.length := by have := r2_le l; unfold r3; rw [List.length_drop]; omega
theorem r4_le (l : List UInt8) : (r4 l).length ≤ l.length := by have := r3_le l; unfold r4; rw [List.length_drop]; omega

theorem st1 (l : List UInt8) (g : Nat) (W : World) (hs : l.length ≤ maxLen) (hg : W.heap.size = g) :
    Calls Tryd.prog 29 #[.int .i64 1, .func (.func 18) #[] #[], .pointer (some ⟨g, 0, none⟩)] (W.alloc (.cells #[.string (bas l)] 9)) fun e w' =>
      e = .returned (.string (bas (l.take (fcN l)))) ∧ w' = W.alloc (.cells #[.string (bas (r1 l))] 9) := by
  have h := cut1_d1 (bas l) 1 g W (by rw [bas_size]; have := r1_le l; have := r2_le l; have := r3_le l; have := r4_le l; omega) hg
  rw [bas_list] at h
  exact h
theorem st2 (l : List UInt8) (g : Nat) (W : World) (hs : l.length ≤ maxLen) (hg : W.heap.size = g) :
    Calls Tryd.prog 29 #[.int .i64 (bas l).size, .func (.func 20) #[] #[], .pointer (some ⟨g, 0, none⟩)] (W.alloc (.cells #[.string (bas (r1 l))] 9)) fun e w' =>
      e = .returned (.string (bas (lts l))) ∧ w' = W.alloc (.cells #[.string (bas (r2 l))] 9) := by
  have h := cut1_d3 (bas (r1 l)) l.length g W (by rw [bas_size]; have := r1_le l; have := r2_le l; have := r3_le l; have := r4_le l; omega) hg
  rw [bas_list] at h
  rw [bas_size]
  exact h
theorem st3 (l : List UInt8) (g : Nat) (W : World) (hs : l.length ≤ maxLen) (hg : W.heap.size = g) :
    Calls Tryd.prog 29 #[.int .i64 1, .func (.func 18) #[] #[], .pointer (some ⟨g, 0, none⟩)] (W.alloc (.cells #[.string (bas (r2 l))] 9)) fun e w' =>
      e = .returned (.string (bas ((r2 l).take (frN l)))) ∧ w' = W.alloc (.cells #[.string (bas (r3 l))] 9) := by
  have h := cut1_d1 (bas (r2 l)) 1 g W (by rw [bas_size]; have := r1_le l; have := r2_le l; have := r3_le l; have := r4_le l; omega) hg
  rw [bas_list] at h
  exact h
theorem st4 (l : List UInt8) (g : Nat) (W : World) (hs : l.length ≤ maxLen) (hg : W.heap.size = g) :
    Calls Tryd.prog 29 #[.int .i64 (bas l).size, .func (.func 19) #[] #[], .pointer (some ⟨g, 0, none⟩)] (W.alloc (.cells #[.string (bas (r3 l))] 9)) fun e w' =>
      e = .returned (.string (bas (dgs l))) ∧ w' = W.alloc (.cells #[.string (bas (r4 l))] 9) := by
  have h := cut1_d2 (bas (r3 l)) l.length g W (by rw [bas_size]; have := r1_le l; have := r2_le l; have := r3_le l; have := r4_le l; omega) hg
  rw [bas_list] at h
  rw [bas_size]
  exact h
theorem st5 (l : List UInt8) (g : Nat) (W : World) (hs : l.length ≤ maxLen) (hg : W.heap.size = g) :
    Calls Tryd.prog 29 #[.int .i64 1, .func (.func 22) #[] #[], .pointer (some ⟨g, 0, none⟩)] (W.alloc (.cells #[.string (bas (r4 l))] 9)) fun e w' =>
      e = .returned (.string (bas ((r4 l).take (cutN p_d4 1 (r4 l))))) ∧ w' = W.alloc (.cells #[.string (bas ((r4 l).drop (cutN p_d4 1 (r4 l))))] 9) := by
  have h := cut1_d4 (bas (r4 l)) 1 g W (by rw [bas_size]; have := r1_le l; have := r2_le l; have := r3_le l; have := r4_le l; omega) hg
  rw [bas_list] at h
  exact h
def numN (l : List UInt8) : Nat := l.foldl (fun n c => n * 10 + (c.toNat - 48)) 0
def Bad (l : List UInt8) : Prop := (colL (lts l)).2 = 5 ∨ dgs l = [] ∨ 7 < (dgs l).length ∨ (dgs l).head? = some 48 ∨ (r4 l).take (cutN p_d4 1 (r4 l)) ≠ []
instance (l : List UInt8) : Decidable (Bad l) := by unfold Bad; infer_instance
structure PRes where
  row : Nat
  col : Nat
  fr : Bool
  fc : Bool
  err : Nat
  deriving DecidableEq
def parseL (l : List UInt8) : PRes :=
  if Bad l then ⟨0, 0, false, false, 5⟩
  else if (colL (lts l)).2 ≠ 0 ∨ 1048576 < numN (dgs l) then ⟨0, 0, false, false, 11⟩
  else ⟨numN (dgs l), (colL (lts l)).1, !((r2 l).take (frN l)).isEmpty, !(l.take (fcN l)).isEmpty, 0⟩
def PRes.val (r : PRes) : Value := .tuple #[.agg #[.int .i64 (r.row : Int), .int .i64 (r.col : Int), .bool r.fr, .bool r.fc], .int .i64 (r.err : Int)]
theorem bas_empty (l : List UInt8) : (bas l).toList.isEmpty = l.isEmpty := by rw [Lib.toList_data, bas_list]
theorem p_d2_iff (c : Nat) : p_d2 c = true ↔ 48 ≤ c ∧ c ≤ 57 := by simp [p_d2]
theorem cut_all (p : Nat → Bool) : ∀ (m : Nat) (l : List UInt8), ∀ c ∈ l.take (cutN p m l), p c.toNat = true
  | 0, l => by rw [cutN_zero]; simp
  | m + 1, [] => by simp
  | m + 1, c :: r => by
    intro x hx
    cases h : p c.toNat with
    | false => simp [cutN, h] at hx
    | true =>
      simp only [cutN, h, if_true, List.take_succ_cons, List.mem_cons] at hx
      rcases hx with rfl | hx
      · exact h
      · exact cut_all p m r x hx
theorem dgs_all (l : List UInt8) : ∀ c ∈ dgs l, 48 ≤ c.toNat ∧ c.toNat ≤ 57 := fun c hc => (p_d2_iff _).1 (cut_all p_d2 _ _ c hc)
theorem dec_num : ∀ (l : List UInt8) (acc : Nat), (∀ c ∈ l, 48 ≤ c.toNat ∧ c.toNat ≤ 57) → Lib.decFrom acc l = some (l.foldl (fun n c => n * 10 + (c.toNat - 48)) acc)
  | [], acc, _ => rfl
  | c :: r, acc, h => by
    have hc := h c (by simp)
    have hd : Lib.digitVal c = some (c.toNat - 48) := by unfold Lib.digitVal; rw [if_pos hc]
    simp only [Lib.decFrom, hd, List.foldl_cons]
    exact dec_num r _ (fun x hx => h x (by simp [hx]))
theorem atoi_num (l : List UInt8) (h : l ≠ []) (hall : ∀ c ∈ l, 48 ≤ c.toNat ∧ c.toNat ≤ 57) : Lib.atoi l = some (numN l : Int) := by
  cases l with
  | nil => exact absurd rfl h
  | cons c r =>
    have hc := hall c (by simp)
    have h1 : (c == 45) = false := by rw [beq_eq_false_iff_ne]; rintro rfl; simp at hc
    have h2 : (c == 43) = false := by rw [beq_eq_false_iff_ne]; rintro rfl; simp at hc
    have h3 : Lib.decNat (c :: r) = some (numN (c :: r)) := by
      have := dec_num (c :: r) 0 hall
      unfold Lib.decNat
      exact this
    simp [Lib.atoi, h1, h2, h3]
theorem num_le (l : List UInt8) (h : l.length ≤ 7) (hall : ∀ c ∈ l, 48 ≤ c.toNat ∧ c.toNat ≤ 57) : numN l ≤ 9999999 := by
  have a : ∀ (l : List UInt8) (acc k : Nat), (∀ c ∈ l, 48 ≤ c.toNat ∧ c.toNat ≤ 57) → acc < 10 ^ k → l.foldl (fun n c => n * 10 + (c.toNat - 48)) acc < 10 ^ (k + l.length) := by
    intro l
    induction l with
    | nil => intro acc k _ h; simpa using h
    | cons c r ih =>
      intro acc k h ha
      have hc := h c (by simp)
      rw [List.foldl_cons, List.length_cons, show k + (r.length + 1) = (k + 1) + r.length by omega]
      refine ih _ _ (fun x hx => h x (by simp [hx])) ?_
      rw [Nat.pow_succ]; omega
  have := a l 0 0 hall (by omega)
  rw [Nat.zero_add] at this
  have h2 : (10 : Nat) ^ l.length ≤ 10 ^ 7 := Nat.pow_le_pow_right (by omega) h
  unfold numN
  omega
theorem bas_at0 (l : List UInt8) (h : 0 < (bas l).size) : l.head? = some (bas l)[0] := by
  cases l with
  | nil => rw [bas_size] at h; simp at h
  | cons c r => rfl
theorem cot {w : World} {b o p : Nat} {x : Value} (v : Value) (h : w.cell? ⟨b, o, none⟩ = some x) (hne : p ≠ o) : (w.setCell ⟨b, p, none⟩ v).cell? ⟨b, o, none⟩ = some x :=
  (World.cell?_setCell_other w ⟨b, p, none⟩ ⟨b, o, none⟩ v (fun e => hne (Addr.mk.inj e).2.1)).trans h
theorem cells_set4 {w : World} {g : Nat} {v0 v1 v2 v3 : Value} (h0 : w.cell? ⟨g, 0, none⟩ = some v0) (h1 : w.cell? ⟨g, 1, none⟩ = some v1) (h2 : w.cell? ⟨g, 2, none⟩ = some v2) (h3 : w.cell? ⟨g, 3, none⟩ = some v3) :
    (∀ v, (w.setCell ⟨g, 0, none⟩ v).cell? ⟨g, 0, none⟩ = some v) ∧ (∀ u v, ((w.setCell ⟨g, 0, none⟩ u).setCell ⟨g, 1, none⟩ v).cell? ⟨g, 1, none⟩ = some v) ∧ (∀ t u v, (((w.setCell ⟨g, 0, none⟩ t).setCell ⟨g, 1, none⟩ u).setCell ⟨g, 2, none⟩ v).cell? ⟨g, 2, none⟩ = some v) ∧
      (∀ s t u v, ((((w.setCell ⟨g, 0, none⟩ s).setCell ⟨g, 1, none⟩ t).setCell ⟨g, 2, none⟩ u).setCell ⟨g, 3, none⟩ v).cell? ⟨g, 3, none⟩ = some v) :=
  ⟨fun v => cset v h0, fun u v => cset v (cot u h1 (by omega)), fun t u v => cset v (cot u (cot t h2 (by omega)) (by omega)), fun s t u v => cset v (cot u (cot t (cot s h3 (by omega)) (by omega)) (by omega))⟩
theorem cells_new4 {w w' : World} {x : Value} {v0 v1 v2 v3 : Value} {t t2 : TypeId} (hb : Below ((w.alloc (.cells #[v0, v1, v2, v3] t)).alloc (.cells #[x] t2)).heap.size ((w.alloc (.cells #[v0, v1, v2, v3] t)).alloc (.cells #[x] t2)) w') :
    w'.cell? ⟨w.heap.size, 0, none⟩ = some v0 ∧ w'.cell? ⟨w.heap.size, 1, none⟩ = some v1 ∧ w'.cell? ⟨w.heap.size, 2, none⟩ = some v2 ∧ w'.cell? ⟨w.heap.size, 3, none⟩ = some v3 := by
  have hc : ∀ o, w'.cell? ⟨w.heap.size, o, none⟩ = (w.alloc (.cells #[v0, v1, v2, v3] t)).cell? ⟨w.heap.size, o, none⟩ := fun o => by
    rw [(bthru hb).1 _ o (by simp; omega), World.cell?_alloc_past _ _ _ (by simp)]
  have hc2 : ∀ o, w'.cell? ⟨w.heap.size, o, none⟩ = #[v0, v1, v2, v3][o]? := fun o => by rw [hc, World.cell?_alloc_at _ _ _ _ rfl]
  exact ⟨by rw [hc2]; rfl, by rw [hc2]; rfl, by rw [hc2]; rfl, by rw [hc2]; rfl⟩
set_option maxHeartbeats 4000000 in
theorem parse_any (l : List UInt8) (w : World) (hs : l.length ≤ maxLen) :
    Calls Tryd.prog 7 #[.string (bas l)] w fun e w' => e = .returned (parseL l).val ∧ Below w.heap.size w w' := by
  have HS := hid hs
  have hlt : (bas (lts l)).size ≤ maxLen := by rw [bas_size]; have := r1_le l; unfold lts; rw [List.length_take]; omega
  have HLT := hid hlt
  clear hlt hs
  go_enter Tryd.func7, Tryd.ntmps7
  go_wp2_with fail
  refine (cutter_any _ _).mono ?_; rintro e w1 ⟨rfl, rfl⟩
  go_wp2_with fail
  refine (st1 l _ _ HS.out (by simp)).mono ?_; rintro e w2 ⟨rfl, rfl⟩
  go_wp2_with fail
  refine (st2 l _ _ HS.out (by simp)).mono ?_; rintro e w2 ⟨rfl, rfl⟩
  go_wp2_with fail
  refine (st3 l _ _ HS.out (by simp)).mono ?_; rintro e w2 ⟨rfl, rfl⟩
  go_wp2_with fail
  refine (st4 l _ _ HS.out (by simp)).mono ?_; rintro e w2 ⟨rfl, rfl⟩
  go_wp2_with fail
  refine (st5 l _ _ HS.out (by simp)).mono ?_; rintro e w2 ⟨rfl, rfl⟩
  go_wp2_with fail
  refine (column_any _ _ HLT.out).mono ?_
  rintro e w2 ⟨he, rfl⟩
  unfold ColPost at he
  rw [bas_list] at he
  generalize hcv : (colL (lts l)).1 = cv at he
  generalize hce : (colL (lts l)).2 = ce at he
  have HCV := hid hcv
  have HCE := hid hce
  clear hcv hce
  subst he
  have hd7 : (dgs l).length ≤ maxLen := by have := r3_le l; unfold dgs; rw [List.length_take]; have := HS.out; omega
  have hdz : (bas (dgs l)).size ≤ maxLen := by rw [bas_size]; exact hd7
  unfold maxLen at hdz
  generalize hD : bas (dgs l) = D at *
  generalize hX : bas ((r4 l).take (cutN p_d4 1 (r4 l))) = X
  generalize hY : bas ((r4 l).drop (cutN p_d4 1 (r4 l))) = Y
  generalize hF : (!(bas ((l).take (fcN l))).toList.isEmpty) = F
  generalize hG : (!(bas ((r2 l).take (frN l))).toList.isEmpty) = G
  have HD := hid hD
  have HX := hid hX
  have HF := hid hF
  have HG := hid hG
  clear hD hX hF hG hd7 hY
  have below0 : Hid (Below w.heap.size w ((w.alloc (Obj.cells #[Value.int IntKind.i64 0, Value.int IntKind.i64 0, Value.bool false, Value.bool false] 25)).alloc (Obj.cells #[Value.string Y] 9))) := hid (((Below.refl _ _).alloc (Nat.le_refl _) _).alloc (by simp) _)
  go_wp2_with fail
  · have hb : Bad l := .inl (by have : (ce : Int) = 5 := by assumption
                                rw [HCE.out]; omega)
    exact bodyPost_ret (v := .tuple #[.agg #[.int .i64 0, .int .i64 0, .bool false, .bool false], .int .i64 5]) (by simp [results, Tryd.results7, go_sem]) rfl ⟨by rw [parseL, if_pos hb]; rfl, below0.out⟩
  · have hb : Bad l := .inr (.inl (by have : D.toList = [] := by assumption
                                      rw [← HD.out, Lib.toList_data, bas_list] at this; exact this))
    exact bodyPost_ret (v := .tuple #[.agg #[.int .i64 0, .int .i64 0, .bool false, .bool false], .int .i64 5]) (by simp [results, Tryd.results7, go_sem]) rfl ⟨by rw [parseL, if_pos hb]; rfl, below0.out⟩
  · have hb : Bad l := .inr (.inr (.inr (.inl (by
      have h0 : 0 < D.size := by assumption
      have h48 : (D[0].toNat : Int) = 48 := by assumption
      have hd := HD.out
      subst hd
      rw [bas_at0 _ h0]
      congr 1
      apply UInt8.toNat_inj.1
      show _ = 48
      omega))))
    exact bodyPost_ret (v := .tuple #[.agg #[.int .i64 0, .int .i64 0, .bool false, .bool false], .int .i64 5]) (by simp [results, Tryd.results7, go_sem]) rfl ⟨by rw [parseL, if_pos hb]; rfl, below0.out⟩
  · have hb : Bad l := .inr (.inr (.inr (.inr (by
      have h0 : 0 < D.size := by assumption
      have hx : (((((ce : Int) == 5) = true ∨ D.toList.isEmpty = true) ∨ 7 < (D.size : Int)) ∨ ((D[0].toNat : Int) == 48) = true) ∨ (!X.toList.isEmpty) = true := by assumption
      have n1 : ¬ (ce : Int) = 5 := by assumption
      have n2 : ¬ D.toList = [] := by assumption
      have n3 : (D.size : Int) ≤ 7 := by assumption
      have n4 : ¬ (D[0].toNat : Int) = 48 := by assumption
      rcases hx with (((h | h) | h) | h) | h
      · exact absurd (beq_iff_eq.1 h) n1
      · exact absurd (List.isEmpty_iff.1 h) n2
      · omega
      · exact absurd (beq_iff_eq.1 h) n4
      · intro he
        rw [← HX.out, he] at h
        rw [bas_empty] at h
        simp at h))))
    exact bodyPost_ret (v := .tuple #[.agg #[.int .i64 0, .int .i64 0, .bool false, .bool false], .int .i64 5]) (by simp [results, Tryd.results7, go_sem]) rfl ⟨by rw [parseL, if_pos hb]; rfl, below0.out⟩
  · have h0 : 0 < D.size := by assumption
    have n1 : ¬ (ce : Int) = 5 := by assumption
    have n2 : ¬ D.toList = [] := by assumption
    have n3 : (D.size : Int) ≤ 7 := by assumption
    have n4 : ¬ (D[0].toNat : Int) = 48 := by assumption
    have hx : (((((ce : Int) == 5) = false ∧ D.toList.isEmpty = false) ∧ (D.size : Int) ≤ 7) ∧ ((D[0].toNat : Int) == 48) = false) ∧ (!X.toList.isEmpty) = false := by assumption
    have hb : ¬ Bad l := by
      rintro (h | h | h | h | h)
      · rw [HCE.out] at h; omega
      · rw [← HD.out, Lib.toList_data, bas_list] at n2; exact n2 h
      · rw [← HD.out, bas_size] at n3; omega
      · have hd := HD.out
        subst hd
        rw [bas_at0 _ h0] at h
        have h5 := Option.some.inj h
        rw [h5] at n4
        exact n4 rfl
      · have h5 := hx.2
        rw [← HX.out, bas_empty] at h5
        simp at h5
        exact h (by simpa using h5)
    have hnum : Lib.atoi D.data.toList = some (numN (dgs l) : Int) := by
      rw [← HD.out, bas_list]
      exact atoi_num _ (by rw [← HD.out, Lib.toList_data, bas_list] at n2; exact n2) (dgs_all l)
    have hnl := num_le (dgs l) (by rw [← HD.out, bas_size] at n3; omega) (dgs_all l)
    have HB := hid hb
    clear hb hx n1 n2 n4
    refine (Tryd.strconv_Atoi D _ (by omega) hnum _).mono ?_
    rintro e w3 ⟨rfl, t, hw⟩
    have hb3 : Below ((w.alloc (Obj.cells #[Value.int IntKind.i64 0, Value.int IntKind.i64 0, Value.bool false, Value.bool false] 25)).alloc (Obj.cells #[Value.string Y] 9)).heap.size ((w.alloc (Obj.cells #[Value.int IntKind.i64 0, Value.int IntKind.i64 0, Value.bool false, Value.bool false] 25)).alloc (Obj.cells #[Value.string Y] 9)) w3 := by rw [hw]; exact Go.Joins.below_bytesWorld _ _ _ _ (Nat.le_refl _)
    clear hw
    obtain ⟨hc, hf⟩ := bthru hb3
    have K := hid (let k := cells_new4 hb3; cells_set4 k.1 k.2.1 k.2.2.1 k.2.2.2)
    have hs3 : w.heap.size + 1 < w3.heap.size := by have := hb3.size; simp at this; omega
    have hB : Hid (Below w.heap.size w w3) := hid (below0.out.trans (hb3.mono (by simp; omega)))
    generalize hN : numN (dgs l) = n at *
    have HN := hid hN
    clear hN hnum hb3
    by_cases hce : ce = 0
    · subst hce
      by_cases hbig : 1048576 < n
      · go_wp2_with fail
        exact bodyPost_ret (v := .tuple #[.agg #[.int .i64 0, .int .i64 0, .bool false, .bool false], .int .i64 11]) (by simp [results, Tryd.results7, go_sem, K.out.1, K.out.2.1, K.out.2.2.1, K.out.2.2.2]) rfl ⟨by rw [parseL, if_neg HB.out, if_pos (.inr (by rw [HN.out]; exact hbig))]; rfl, (((hB.out.setCell (by simp) _).setCell (by simp) _).setCell (by simp) _).setCell (by simp) _⟩
      · go_wp2_with fail
        exact bodyPost_ret (v := .tuple #[.agg #[.int .i64 n, .int .i64 cv, .bool G, .bool F], .int .i64 0]) (by simp [results, Tryd.results7, go_sem, K.out.1, K.out.2.1, K.out.2.2.1, K.out.2.2.2]) rfl ⟨by
          rw [parseL, if_neg HB.out, if_neg (by rw [HCE.out, HN.out]; omega)]
          rw [← HG.out, ← HF.out, bas_empty, bas_empty, HN.out, HCV.out]; rfl, (((hB.out.setCell (by simp) _).setCell (by simp) _).setCell (by simp) _).setCell (by simp) _⟩
    · have e0 : ((ce : Int) == 0) = false := by rw [beq_eq_false_iff_ne]; omega
      have e1 : ((ce : Int) != 0) = true := by simp; omega
      go_wp2_with fail
      exact bodyPost_ret (v := .tuple #[.agg #[.int .i64 0, .int .i64 0, .bool false, .bool false], .int .i64 11]) (by simp [results, Tryd.results7, go_sem, K.out.1, K.out.2.1, K.out.2.2.1, K.out.2.2.2]) rfl ⟨by rw [parseL, if_neg HB.out, if_pos (.inl (by rw [HCE.out]; exact hce))]; rfl, (((hB.out.setCell (by simp) _).setCell (by simp) _).setCell (by simp) _).setCell (by simp) _⟩
  · have h1 : ¬ 0 < D.size := by assumption
    have h2 : ¬ D.toList = [] := by assumption
    exact absurd (by rw [← HD.out] at h1 ⊢; rw [Lib.toList_data, bas_list]; rw [bas_size] at h1; exact List.eq_nil_of_length_eq_zero (by omega)) h2
  · have hb : Bad l := .inr (.inr (.inl (by
      have h7 : 7 < (D.size : Int) := by assumption
      rw [← HD.out, bas_size] at h7
      omega)))
    exact bodyPost_ret (v := .tuple #[.agg #[.int .i64 0, .int .i64 0, .bool false, .bool false], .int .i64 5]) (by simp [results, Tryd.results7, go_sem]) rfl ⟨by rw [parseL, if_pos hb]; rfl, below0.out⟩
end Go.Proofs.YtgfgbihcapkikaaDoor
