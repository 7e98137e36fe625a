/- Plain lists: the reader reads back what was written, with other ends. No program is named. -/
import Derived.Test.YtpkdnmjcommbmaaDoorWriteA
namespace Go.Proofs.YtpkdnmjcommbmaaDoor
open Go

/-- What may stand behind a field. -/
def stopsAt (sep : UInt8) (t : List UInt8) : Prop := t = [] ∨ ∃ c u, t = c :: u ∧ (c = sep ∨ c = 10 ∨ c = 13)
theorem tw_clean {f t : List UInt8} (h : clean f) (ht : t = [] ∨ ∃ c u, t = c :: u ∧ stopB c = true) : tw (f ++ t) = f := by
  unfold tw
  induction f with
  | nil =>
    rcases ht with rfl | ⟨c, u, rfl, hc⟩
    · rfl
    · simp [hc]
  | cons x r ih =>
    obtain ⟨h1, h2, h3⟩ := h
    simp only [List.mem_cons, not_or] at h1 h2 h3
    have hx : stopB x = false := by
      have e1 : x.toNat ≠ 10 := fun e => h1.1 (UInt8.toNat_inj.1 (by rw [e]; rfl))
      have e2 : x.toNat ≠ 13 := fun e => h2.1 (UInt8.toNat_inj.1 (by rw [e]; rfl))
      have e3 : x.toNat ≠ 34 := fun e => h3.1 (UInt8.toNat_inj.1 (by rw [e]; rfl))
      simp [stopB, stopR, e1, e2, e3]
    have := ih ⟨h1.2, h2.2, h3.2⟩
    simp only [List.cons_append, List.takeWhile_cons, hx, Bool.not_false, if_true]
    rw [this]
theorem tws_app {sep : UInt8} {f : List UInt8} (h : sep ∉ f) (t : List UInt8) : (f ++ t).takeWhile (· != sep) = f ++ t.takeWhile (· != sep) := by
  induction f with
  | nil => rfl
  | cons x r ih =>
    simp only [List.mem_cons, not_or] at h
    have hx : (x != sep) = true := by simp; exact fun e => h.1 e.symm
    simp only [List.cons_append, List.takeWhile_cons, hx, if_true]
    rw [ih h.2]
theorem plain_clean {sep : UInt8} {f t : List UInt8} (hf : clean f) (hs : sep ∉ f) (ht : stopsAt sep t) : plainF sep (f ++ t) = f := by
  unfold plainF
  rw [tws_app hs]
  apply tw_clean hf
  rcases ht with rfl | ⟨c, u, rfl, hc⟩
  · exact .inl rfl
  · by_cases h : c = sep
    · subst h; exact .inl (by simp)
    · refine .inr ⟨c, u.takeWhile (· != sep), ?_, ?_⟩
      · have : (c != sep) = true := by simpa using h
        simp [this]
      · rcases hc with rfl | rfl | rfl
        · exact absurd rfl h
        · rfl
        · rfl
theorem field_back {sep : UInt8} {al : Bool} {f t : List UInt8} (hf : clean f) (hsep : sep ≠ 34) (ht : stopsAt sep t) : fieldL sep (fieldW sep al f ++ t) = (f, false, t) := by
  have ht34 : t.head? ≠ some 34 := by
    rcases ht with rfl | ⟨c, u, rfl, hc⟩
    · simp
    · simp only [List.head?_cons]
      intro e
      injection e with e
      subst e
      rcases hc with h | h | h
      · exact hsep h.symm
      · exact absurd h (by decide)
      · exact absurd h (by decide)
  unfold fieldW
  split
  · rename_i hq
    have hs : split1 34 (f ++ 34 :: t) = some (f, t) := split1_app hf.2.2
    have hb : ¬ ∃ z, t = 34 :: z := by
      rintro ⟨z, rfl⟩
      exact ht34 rfl
    unfold fieldL
    have e1 : (34 :: (f ++ [34]) ++ t) = 34 :: (f ++ 34 :: t) := by simp
    rw [e1]
    simp only [List.head?_cons, if_true, List.tail_cons]
    rw [quotedL_one hs hb (by omega)]
  · rename_i hq
    simp only [Bool.or_eq_true, not_or, Bool.not_eq_true] at hq
    have hs : sep ∉ f := by
      intro hm
      have := hq.2
      rw [List.contains_iff_mem.2 hm] at this
      cases this
    have hp := plain_clean hf hs ht
    unfold fieldL
    have hh : (f ++ t).head? ≠ some 34 := by
      cases f with
      | nil => simpa using ht34
      | cons x r =>
        simp only [List.cons_append, List.head?_cons]
        intro e
        injection e with e
        exact hf.2.2 (by simp [e])
    rw [if_neg hh, hp, List.drop_left, if_neg ht34]
theorem row_back {sep : UInt8} {al : Bool} (hsep : sep ≠ 34) {t : List UInt8} (ht : t = [] ∨ ∃ c u, t = c :: u ∧ c ≠ sep ∧ (c = 10 ∨ c = 13)) :
    ∀ (r : List (List UInt8)) (f : List UInt8) (n : Nat), clean f → (∀ g ∈ r, clean g) → r.length < n →
      rowL n sep (fieldW sep al f ++ (r.flatMap fun g => sep :: fieldW sep al g) ++ t) = (f :: r, false, t)
  | [], f, n, hf, _, hn => by
    have h1 : stopsAt sep t := by
      rcases ht with h | ⟨c, u, h, _, hc⟩
      · exact .inl h
      · exact .inr ⟨c, u, h, .inr hc⟩
    have h2 := field_back (al := al) hf hsep h1
    simp only [List.flatMap_nil, List.append_nil]
    refine rowL_stop hn h2 ?_
    rcases ht with rfl | ⟨c, u, rfl, hc, _⟩
    · simp
    · simpa using hc
  | g :: r, f, n, hf, hr, hn => by
    obtain ⟨n, rfl⟩ : ∃ m, n = m + 1 := ⟨n - 1, by simp at hn; omega⟩
    have h2 := field_back (al := al) hf hsep (t := sep :: (fieldW sep al g ++ (r.flatMap fun g => sep :: fieldW sep al g) ++ t)) (.inr ⟨sep, _, rfl, .inl rfl⟩)
    have e1 : fieldW sep al f ++ ((g :: r).flatMap fun g => sep :: fieldW sep al g) ++ t = fieldW sep al f ++ sep :: (fieldW sep al g ++ (r.flatMap fun g => sep :: fieldW sep al g) ++ t) := by simp [List.flatMap_cons]
    rw [e1, rowL_go h2 (by simp)]
    simp only [List.tail_cons]
    rw [row_back hsep ht r g n (hr g (by simp)) (fun x hx => hr x (by simp [hx])) (by simp at hn; omega)]
theorem rowP_ne {sep : UInt8} {row : List (List UInt8)} (h : row ≠ []) : rowP sep (row.length == 1) row ≠ [] := by
  cases row with
  | nil => exact absurd rfl h
  | cons f r =>
    cases r with
    | nil =>
      simp only [rowP, List.length_cons, List.length_nil, List.flatMap_nil, List.append_nil]
      unfold fieldW
      cases f with
      | nil => simp
      | cons x y => split <;> simp
    | cons g r => simp [rowP, List.flatMap_cons]
theorem row_back' {sep : UInt8} (hsep : sep ≠ 34) {t : List UInt8} (ht : t = [] ∨ ∃ c u, t = c :: u ∧ c ≠ sep ∧ (c = 10 ∨ c = 13)) {row : List (List UInt8)} (h : row ≠ []) (hc : ∀ g ∈ row, clean g) {N : Nat} (hN : row.length ≤ N) :
    rowL N sep (rowP sep (row.length == 1) row ++ t) = (row, false, t) := by
  cases row with
  | nil => exact absurd rfl h
  | cons f r =>
    simp only [rowP]
    exact row_back hsep ht r f N (hc f (by simp)) (fun g hg => hc g (by simp [hg])) (by simp at hN; omega)
theorem rows_end {sep : UInt8} (hsep : sep ≠ 34) (h10 : sep ≠ 10) (h13 : sep ≠ 13) (E : List UInt8) (hE : E = [10] ∨ E = [13, 10]) {N : Nat} {row : List (List UInt8)} (h : row ≠ []) (hc : ∀ g ∈ row, clean g) (hN : row.length ≤ N) (n : Nat) (u : List UInt8) :
    rowsL N sep (n + 1) (rowP sep (row.length == 1) row ++ E ++ u) = (row :: (rowsL N sep n u).1, (rowsL N sep n u).2) := by
  have ht : E ++ u = [] ∨ ∃ c v, E ++ u = c :: v ∧ c ≠ sep ∧ (c = 10 ∨ c = 13) := by
    rcases hE with rfl | rfl
    · exact .inr ⟨10, u, rfl, h10.symm, .inl rfl⟩
    · exact .inr ⟨13, 10 :: u, rfl, h13.symm, .inr rfl⟩
  have hr := row_back' hsep ht h hc hN
  have hne : rowP sep (row.length == 1) row ++ E ++ u ≠ [] := by
    intro e
    have := congrArg List.length e
    have h2 := rowP_ne (sep := sep) h
    simp at e
    exact h2 e.1
  rw [List.append_assoc] at hne ⊢
  have he : endL (E ++ u) = some E.length := by
    rcases hE with rfl | rfl
    · rfl
    · rfl
  have hd : (E ++ u).drop E.length = u := List.drop_left
  conv => lhs; unfold rowsL
  rw [if_neg hne, hr]
  simp only [he, hd]
  rfl
theorem rows_last {sep : UInt8} (hsep : sep ≠ 34) {N : Nat} {row : List (List UInt8)} (h : row ≠ []) (hc : ∀ g ∈ row, clean g) (hN : row.length ≤ N) (n : Nat) :
    rowsL N sep (n + 1) (rowP sep (row.length == 1) row) = ([row], none) := by
  have hr := row_back' hsep (t := []) (.inl rfl) h hc hN
  rw [List.append_nil] at hr
  have he : endL [] = some 0 := rfl
  have hz : rowsL N sep n [] = ([], none) := by cases n <;> simp [rowsL]
  conv => lhs; unfold rowsL
  rw [if_neg (rowP_ne h), hr]
  simp only [he, List.drop_zero, hz]
  rfl
/-- The rows, each with the same end, and something behind them. -/
theorem rows_ends {sep : UInt8} (hsep : sep ≠ 34) (h10 : sep ≠ 10) (h13 : sep ≠ 13) (E : List UInt8) (hE : E = [10] ∨ E = [13, 10]) {N : Nat} (u : List UInt8) : ∀ (rows : List (List (List UInt8))) (n : Nat),
    (∀ r ∈ rows, r ≠ [] ∧ (∀ g ∈ r, clean g) ∧ r.length ≤ N) →
      rowsL N sep (n + rows.length) ((rows.flatMap fun r => rowP sep (r.length == 1) r ++ E) ++ u) = (rows ++ (rowsL N sep n u).1, (rowsL N sep n u).2)
  | [], n, _ => by simp
  | r :: rs, n, h => by
    obtain ⟨h1, h2, h3⟩ := h r (by simp)
    have ih := rows_ends hsep h10 h13 E hE u rs n (fun x hx => h x (by simp [hx]))
    have e1 : ((r :: rs).flatMap fun r => rowP sep (r.length == 1) r ++ E) ++ u = rowP sep (r.length == 1) r ++ E ++ ((rs.flatMap fun r => rowP sep (r.length == 1) r ++ E) ++ u) := by simp [List.flatMap_cons]
    rw [e1, show n + (r :: rs).length = (n + rs.length) + 1 by simp; omega, rows_end hsep h10 h13 E hE h1 h2 h3, ih]
    simp
/-- With 13 and 10. -/
theorem back_crlf {sep : UInt8} (hsep : sep ≠ 34) (h10 : sep ≠ 10) (h13 : sep ≠ 13) {N : Nat} (rows : List (List (List UInt8))) (n : Nat) (hn : rows.length ≤ n) (h : ∀ r ∈ rows, r ≠ [] ∧ (∀ g ∈ r, clean g) ∧ r.length ≤ N) :
    rowsL N sep n (rows.flatMap fun r => rowP sep (r.length == 1) r ++ [13, 10]) = (rows, none) := by
  have := rows_ends hsep h10 h13 [13, 10] (.inr rfl) (N := N) [] rows (n - rows.length) h
  rw [List.append_nil, show n - rows.length + rows.length = n by omega] at this
  rw [this]
  have : rowsL N sep (n - rows.length) [] = ([], none) := by cases n - rows.length <;> simp [rowsL]
  rw [this]; simp
/-- Without the last end. -/
theorem back_cut {sep : UInt8} (hsep : sep ≠ 34) (h10 : sep ≠ 10) (h13 : sep ≠ 13) {N : Nat} (rows : List (List (List UInt8))) (last : List (List UInt8)) (n : Nat) (hn : rows.length < n) (h : ∀ r ∈ rows ++ [last], r ≠ [] ∧ (∀ g ∈ r, clean g) ∧ r.length ≤ N) :
    rowsL N sep n (writeL sep rows ++ rowP sep (last.length == 1) last) = (rows ++ [last], none) := by
  have h1 := rows_ends hsep h10 h13 [10] (.inl rfl) (N := N) (rowP sep (last.length == 1) last) rows (n - rows.length) (fun r hr => h r (by simp [hr]))
  rw [show n - rows.length + rows.length = n by omega] at h1
  have e1 : writeL sep rows = rows.flatMap fun r => rowP sep (r.length == 1) r ++ [10] := rfl
  obtain ⟨k, hk⟩ : ∃ k, n - rows.length = k + 1 := ⟨n - rows.length - 1, by omega⟩
  obtain ⟨h2, h3, h4⟩ := h last (by simp)
  rw [e1, h1, hk, rows_last hsep h2 h3 h4]
/-- 13 ahead of each 10. -/
def crlf (l : List UInt8) : List UInt8 := l.flatMap fun c => if c = 10 then [13, 10] else [c]
theorem crlf_no {l : List UInt8} (h : 10 ∉ l) : crlf l = l := by
  induction l with
  | nil => rfl
  | cons x r ih =>
    simp only [List.mem_cons, not_or] at h
    have := ih h.2
    unfold crlf at this ⊢
    rw [List.flatMap_cons, this, if_neg (fun e => h.1 e.symm)]; rfl
theorem crlf_app (a b : List UInt8) : crlf (a ++ b) = crlf a ++ crlf b := by simp [crlf, List.flatMap_append]
theorem fieldW_no {sep : UInt8} {al : Bool} {f : List UInt8} (h : clean f) : 10 ∉ fieldW sep al f := by
  unfold fieldW
  split
  · simp only [List.mem_cons, List.mem_append, List.not_mem_nil, or_false, not_or]
    exact ⟨by decide, h.1, by decide⟩
  · exact h.1
theorem rowP_no {sep : UInt8} (h10 : sep ≠ 10) {al : Bool} {row : List (List UInt8)} (h : ∀ f ∈ row, clean f) : 10 ∉ rowP sep al row := by
  cases row with
  | nil => simp [rowP]
  | cons f r =>
    simp only [rowP, List.mem_append, List.mem_flatMap, List.mem_cons, not_or, not_exists, not_and]
    exact ⟨fieldW_no (h f (by simp)), fun g hg => ⟨h10.symm, fieldW_no (h g (by simp [hg]))⟩⟩
theorem crlf_write {sep : UInt8} (h10 : sep ≠ 10) : ∀ rows : List (List (List UInt8)), (∀ r ∈ rows, ∀ f ∈ r, clean f) → crlf (writeL sep rows) = rows.flatMap fun r => rowP sep (r.length == 1) r ++ [13, 10]
  | [], _ => rfl
  | r :: rs, h => by
    have e1 : writeL sep (r :: rs) = rowP sep (r.length == 1) r ++ [10] ++ writeL sep rs := by simp [writeL, rowW]
    rw [e1, crlf_app, crlf_app, crlf_no (rowP_no h10 (h r (by simp))), crlf_write h10 rs (fun x hx => h x (by simp [hx]))]
    rfl
theorem len_mem {rows : List (List (List UInt8))} {r : List (List UInt8)} (h : r ∈ rows) (g : List (List UInt8) → List UInt8) : (g r).length ≤ (rows.flatMap g).length := by
  induction rows with
  | nil => simp at h
  | cons x xs ih =>
    rw [List.flatMap_cons, List.length_append]
    rcases List.mem_cons.1 h with rfl | h
    · omega
    · have := ih h; omega
theorem len_rows (rows : List (List (List UInt8))) (g : List (List UInt8) → List UInt8) (hg : ∀ r, 1 ≤ (g r).length) : rows.length ≤ (rows.flatMap g).length := by
  induction rows with
  | nil => simp
  | cons x xs ih => rw [List.flatMap_cons, List.length_append, List.length_cons]; have := hg x; omega
theorem back_one {sep : UInt8} (hsep : sep ≠ 34) (h10 : sep ≠ 10) (h13 : sep ≠ 13) (rows : List (List (List UInt8))) (hne : ∀ r ∈ rows, r ≠ []) (hc : ∀ r ∈ rows, ∀ f ∈ r, clean f) :
    rowsL ((crlf (writeL sep rows)).length + 1) sep ((crlf (writeL sep rows)).length + 1) (crlf (writeL sep rows)) = (rows, none) := by
  rw [crlf_write h10 rows hc]
  apply back_crlf hsep h10 h13
  · have := len_rows rows (fun r => rowP sep (r.length == 1) r ++ [13, 10]) (fun r => by simp)
    omega
  · intro r hr
    refine ⟨hne r hr, hc r hr, ?_⟩
    have h1 := len_mem hr (fun r => rowP sep (r.length == 1) r ++ [13, 10])
    have h2 := rowP_len sep (r.length == 1) r
    simp only [List.length_append] at h1
    omega
theorem back_two {sep : UInt8} (hsep : sep ≠ 34) (h10 : sep ≠ 10) (h13 : sep ≠ 13) (rows : List (List (List UInt8))) (h0 : rows ≠ []) (hne : ∀ r ∈ rows, r ≠ []) (hc : ∀ r ∈ rows, ∀ f ∈ r, clean f) :
    rowsL ((writeL sep rows).dropLast.length + 1) sep ((writeL sep rows).dropLast.length + 1) (writeL sep rows).dropLast = (rows, none) := by
  obtain ⟨init, last, rfl⟩ : ∃ init last, rows = init ++ [last] := ⟨rows.dropLast, rows.getLast h0, (List.dropLast_concat_getLast h0).symm⟩
  have e1 : (writeL sep (init ++ [last])).dropLast = writeL sep init ++ rowP sep (last.length == 1) last := by
    have : writeL sep (init ++ [last]) = (writeL sep init ++ rowP sep (last.length == 1) last) ++ [10] := by simp [writeL, rowW]
    rw [this, List.dropLast_concat]
  rw [e1]
  apply back_cut hsep h10 h13
  · have h1 := len_rows init (rowW sep) (fun r => by simp [rowW])
    have h2 : 0 < (rowP sep (last.length == 1) last).length := List.length_pos_iff.2 (rowP_ne (hne last (by simp)))
    have h3 : (writeL sep init).length = (init.flatMap (rowW sep)).length := rfl
    rw [List.length_append]
    omega
  · intro r hr
    refine ⟨hne r hr, hc r hr, ?_⟩
    rw [List.length_append]
    rcases List.mem_append.1 hr with hr | hr
    · have h1 := len_mem hr (rowW sep)
      have h2 := rowP_len sep (r.length == 1) r
      have h3 : (writeL sep init).length = (init.flatMap (rowW sep)).length := rfl
      have h4 : (rowW sep r).length = (rowP sep (r.length == 1) r).length + 1 := by unfold rowW; simp
      omega
    · simp at hr
      subst hr
      have h2 := rowP_len sep (r.length == 1) r
      omega
theorem crlf_len (l : List UInt8) : (crlf l).length ≤ 2 * l.length := by
  induction l with
  | nil => simp [crlf]
  | cons x r ih =>
    have e : crlf (x :: r) = (if x = 10 then [13, 10] else [x]) ++ crlf r := by simp [crlf]
    rw [e, List.length_append]
    split <;> simp <;> omega
end Go.Proofs.YtpkdnmjcommbmaaDoor
