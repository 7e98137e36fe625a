/- The reference's Parse: the walk; it reads the same as place.Parse. -/
import Derived.Test.YtgfgbihcapkikaaDoorParse
namespace Go.Proofs.YtgfgbihcapkikaaDoor
open Go.RowKit

theorem dollar_r (l : List UInt8) : dollarL l = (l.drop (cutN p_d1 1 l), !(l.take (cutN p_d1 1 l)).isEmpty) := by
  cases l with
  | nil => rfl
  | cons c r =>
    by_cases h : c = 36
    · subst h; simp [dollarL, cutN, p_d1]
    · have h2 : ¬ c.toNat = 36 := fun e => h (UInt8.toNat_inj.1 (by rw [e]; rfl))
      simp [dollarL, h, cutN, p_d1, h2]
theorem dollar_1 (l : List UInt8) : dollarL l = (r1 l, !(l.take (fcN l)).isEmpty) := dollar_r l
theorem dollar_3 (l : List UInt8) : dollarL (r2 l) = (r3 l, !((r2 l).take (frN l)).isEmpty) := dollar_r (r2 l)
theorem dollar3_any (l : List UInt8) (hs : (bas (r2 l)).size ≤ maxLen) (w : World) : Calls Tryd.prog 24 #[.string (bas (r2 l))] w fun e w' => e = .returned (.tuple #[.string (bas (r3 l)), .bool (!((r2 l).take (frN l)).isEmpty)]) ∧ w = w' := by
  have h := dollar_any (bas (r2 l)) hs w
  rw [bas_list, dollar_3] at h
  exact h
theorem cutN_more (p : Nat → Bool) : ∀ (l : List UInt8) (m : Nat), l.length ≤ m → cutN p m l = cutN p l.length l
  | [], m, _ => by rw [cutN_nil, cutN_nil]
  | c :: r, 0, h => by simp at h
  | c :: r, m + 1, h => by
    have := cutN_more p r m (by simpa using h)
    simp only [cutN, List.length_cons, this]
theorem cutN_full {p : Nat → Bool} : ∀ (l : List UInt8) (m : Nat), l.length ≤ m → (∀ c ∈ l, p c.toNat = true) → cutN p m l = l.length
  | [], m, _, _ => by rw [cutN_nil]; rfl
  | c :: r, 0, h, _ => by simp at h
  | c :: r, m + 1, h, ha => by
    have := cutN_full (p := p) r m (by simpa using h) (fun x hx => ha x (by simp [hx]))
    simp only [cutN, ha c (by simp), if_true, this, List.length_cons]
theorem cutN_le_at {p : Nat → Bool} : ∀ (l : List UInt8) (m i : Nat) (h : i < l.length), p l[i].toNat = false → cutN p m l ≤ i
  | [], m, i, h, _ => by simp at h
  | c :: r, 0, i, h, _ => by rw [cutN_zero]; omega
  | c :: r, m + 1, 0, h, hp => by simp at hp; simp [cutN, hp]
  | c :: r, m + 1, i + 1, h, hp => by
    have := cutN_le_at (p := p) r m i (by simpa using h) (by simpa using hp)
    simp only [cutN]
    split <;> omega
theorem ltN_eq (l : List UInt8) : ltN l = cutN p_d3 (r1 l).length (r1 l) := cutN_more _ _ _ (r1_le l)
theorem bad_r4 {l : List UInt8} (h : r4 l ≠ []) : Bad l := by
  refine .inr (.inr (.inr (.inr ?_)))
  cases hr : r4 l with
  | nil => exact absurd hr h
  | cons c r => simp [cutN, p_d4]
theorem bad_at {l : List UInt8} {i : Nat} (h : i < (r3 l).length) (hp : p_d2 (r3 l)[i].toNat = false) : Bad l := by
  have := cutN_le_at (r3 l) l.length i h hp
  apply bad_r4
  intro he
  have h2 : (r4 l).length = 0 := by rw [he]; rfl
  unfold r4 dgN at h2
  rw [List.length_drop] at h2
  omega
theorem bad_of {l : List UInt8} (h : r3 l = [] ∨ 7 < (r3 l).length ∨ (r3 l).head? = some 48) : Bad l := by
  rcases h with h | h | h
  · refine .inr (.inl ?_)
    unfold dgs; rw [h]; simp
  · by_cases h4 : r4 l = []
    · refine .inr (.inr (.inl ?_))
      have h2 : (r4 l).length = 0 := by rw [h4]; rfl
      unfold r4 at h2
      unfold dgs
      rw [List.length_drop] at h2
      rw [List.length_take]
      omega
    · exact bad_r4 h4
  · have hl := r3_le l
    cases hr : r3 l with
    | nil => rw [hr] at h; simp at h
    | cons c r =>
      rw [hr] at h hl
      simp at h
      subst h
      refine .inr (.inr (.inr (.inl ?_)))
      unfold dgs dgN
      rw [hr]
      obtain ⟨m, hm⟩ : ∃ m, l.length = m + 1 := ⟨l.length - 1, by simp at hl; omega⟩
      rw [hm]
      simp [cutN, p_d2]
theorem not_bad {l : List UInt8} (h5 : (colL (lts l)).2 ≠ 5) (h : ¬ (r3 l = [] ∨ 7 < (r3 l).length ∨ (r3 l).head? = some 48)) (hall : ∀ c ∈ r3 l, p_d2 c.toNat = true) : ¬ Bad l ∧ dgs l = r3 l := by
  have hn : dgN l = (r3 l).length := cutN_full _ _ (r3_le l) hall
  have hd : dgs l = r3 l := by unfold dgs; rw [hn, List.take_length]
  have h4 : r4 l = [] := by unfold r4; rw [hn, List.drop_length]
  refine ⟨?_, hd⟩
  rintro (k | k | k | k | k)
  · exact h5 k
  · exact h (.inl (by rw [← hd]; exact k))
  · exact h (.inr (.inl (by rw [← hd]; exact k)))
  · exact h (.inr (.inr (by rw [← hd]; exact k)))
  · rw [h4] at k; simp at k
def Digs (l : List UInt8) : Prop := ∀ c ∈ l, p_d2 c.toNat = true

set_option maxHeartbeats 4000000 in
theorem refParse_any (l : List UInt8) (w : World) (hs : l.length ≤ maxLen) :
    Calls Tryd.prog 8 #[.string (bas l)] w fun e w' => e = .returned (parseL l).val ∧ Below w.heap.size w w' := by
  have HS := hid hs
  have hz1 : (bas (r1 l)).size ≤ maxLen := by rw [bas_size]; have := r1_le l; omega
  have HZ1 := hid hz1
  unfold maxLen at hz1
  clear hs
  go_enter Tryd.func8, Tryd.ntmps8
  go_wp2_with fail
  refine (dollar_any _ (by rw [bas_size]; exact HS.out) _).mono ?_; rintro e w1 ⟨rfl, rfl⟩
  rw [bas_list, dollar_1]
  generalize hF : (!(l.take (fcN l)).isEmpty) = F
  have HF := hid hF
  clear hF
  go_wp2_with fail
  obtain ⟨s, hs⟩ : ∃ s, bas (r1 l) = s := ⟨_, rfl⟩
  rw [hs] at hz1 HZ1 ⊢
  have HSS := hid hs
  have hsl : s.data.toList = r1 l := by rw [← hs, bas_list]
  have HSL := hid hsl
  clear hs hsl
  go_loop [5] (fun i => ∃ k : Nat, k ≤ s.size ∧ i = .int .i64 k ∧ Hid (cutN p_d3 s.size s.data.toList = k + cutN p_d3 (s.size - k) (s.data.toList.drop k))) (fun i => s.size - (intOf i).toNat)
  case atStart => exact ⟨0, Nat.zero_le _, rfl, hid (by simp)⟩
  case round =>
    obtain ⟨k, hk, rfl, HI⟩ := hrel
    have hor : (k < s.size ∧ ∃ h : k < s.size, 0 < letN s[k].toNat) ∨ (Hid (ltN l = k) ∧ (¬ k < s.size ∨ ∃ h : k < s.size, letN s[k].toNat = 0)) := by
      by_cases h1 : k < s.size
      · by_cases h2 : 0 < letN s[k].toNat
        · exact .inl ⟨h1, h1, h2⟩
        · refine .inr ⟨?_, .inr ⟨h1, by omega⟩⟩
          have hz : s.size = (r1 l).length := by rw [size_list, HSL.out]
          have h3 : p_d3 s[k].toNat = false := by simp [p_d3]; omega
          rw [ltN_eq, ← hz, ← HSL.out]
          show cutN p_d3 s.size s.data.toList = k
          rw [HI.out, cutN_step h1 h1, h3]; simp
      · refine .inr ⟨?_, .inl h1⟩
        have hz : s.size = (r1 l).length := by rw [size_list, HSL.out]
        rw [ltN_eq, ← hz, ← HSL.out]
        show cutN p_d3 s.size s.data.toList = k
        rw [HI.out, cutN_end (.inl h1)]; simp
    rcases hor with ⟨h1, _, h2⟩ | ⟨HE, h1⟩
    · have HS1 := hid (cutN_step (p := p_d3) (s := s) h1 h1)
      have HP : Hid (p_d3 s[k].toNat = true) := hid (by simp [p_d3]; exact h2)
      have hl := letN_le s[k].toNat
      go_wp2_with (go_at_call 25; refine (refLetter_any _ _).mono ?_; rintro e w' ⟨rfl, rfl⟩)
      go_round
      case rel => exact ⟨k + 1, by omega, by go_num, hid (by rw [HI.out, HS1.out, HP.out]; simp; omega)⟩
      case measure => simp [intOf]; omega
    · have e1 : s.extract 0 k = bas (lts l) := by rw [extract_front, HSL.out]; unfold lts; rw [HE.out]
      have e2 : s.extract k s.size = bas (r2 l) := by rw [extract_rest, HSL.out]; unfold r2; rw [HE.out]
      have hlt : (bas (lts l)).size ≤ maxLen := by rw [bas_size]; have := r1_le l; unfold lts; rw [List.length_take]; have := HS.out; omega
      have HLT := hid hlt
      have hr2 : (bas (r2 l)).size ≤ maxLen := by rw [bas_size]; have := r2_le l; have := HS.out; omega
      have HR2 := hid hr2
      clear hlt hr2
      rcases h1 with h1 | ⟨h0, h1⟩
      all_goals
        go_wp2_with (go_at_call 25; refine (refLetter_any _ _).mono ?_; rintro e w' ⟨rfl, rfl⟩)
        refine (refColumn_any _ _ HLT.out).mono ?_
        rintro e w2 ⟨he, rfl⟩
        unfold ColPost at he
        rw [bas_list] at he
        generalize hcv : (colL (lts l)).1 = cv at he
        generalize hce : (colL (lts l)).2 = ce at he
        have HCV := hid hcv
        have HCE := hid hce
        clear hcv hce
        subst he
        have below0 : Hid (Below w.heap.size w (w.alloc (Obj.cells #[Value.int IntKind.i64 0, Value.int IntKind.i64 0, Value.bool false, Value.bool false] 25))) := hid ((Below.refl _ _).alloc (Nat.le_refl _) _)
        by_cases h5 : ce = 5
        · subst h5
          have hb : Bad l := .inl HCE.out
          go_wp2_with fail
          exact bodyPost_ret (v := .tuple #[.agg #[.int .i64 0, .int .i64 0, .bool false, .bool false], .int .i64 5]) (by simp [results, Tryd.results8, go_sem]) rfl ⟨by rw [parseL, if_pos hb]; rfl, below0.out⟩
        · have q5 : ((ce : Int) == 5) = false := by rw [beq_eq_false_iff_ne]; omega
          go_wp2_with fail
          refine (dollar3_any l HR2.out _).mono ?_; rintro e w1 ⟨rfl, rfl⟩
          generalize hG : (!((r2 l).take (frN l)).isEmpty) = G
          have HG := hid hG
          clear hG
          generalize hS : bas (r3 l) = S
          have hz3 : S.size ≤ maxLen := by rw [← hS, bas_size]; have := r3_le l; have := HS.out; omega
          unfold maxLen at hz3
          have HSS3 := hid hS
          have hsl : S.data.toList = r3 l := by rw [← hS, bas_list]
          have HSL3 := hid hsl
          clear hS hsl
          have hlen : (r3 l).length = S.size := by rw [← HSL3.out, size_list]
          have HLEN := hid hlen
          clear hlen
          by_cases t0 : S.size = 0
          · have hb : Bad l := bad_of (.inl (List.eq_nil_of_length_eq_zero (by rw [HLEN.out]; exact t0)))
            have q0 : ((S.size : Int) == 0) = true := by rw [beq_iff_eq]; omega
            clear t0
            go_wp2_with fail
            exact bodyPost_ret (v := .tuple #[.agg #[.int .i64 0, .int .i64 0, .bool false, .bool false], .int .i64 5]) (by simp [results, Tryd.results8, go_sem]) rfl ⟨by rw [parseL, if_pos hb]; rfl, below0.out⟩
          · have q0 : ((S.size : Int) == 0) = false := by rw [beq_eq_false_iff_ne]; omega
            have q1 : 0 < S.size := by omega
            by_cases t7 : 7 < S.size
            · have hb : Bad l := bad_of (.inr (.inl (by rw [HLEN.out]; exact t7)))
              go_wp2_with fail
              exact bodyPost_ret (v := .tuple #[.agg #[.int .i64 0, .int .i64 0, .bool false, .bool false], .int .i64 5]) (by simp [results, Tryd.results8, go_sem]) rfl ⟨by rw [parseL, if_pos hb]; rfl, below0.out⟩
            · have hhd : (r3 l).head? = some S[0] := by
                rw [← HSL3.out, List.head?_eq_getElem?]
                obtain ⟨h', he⟩ := byte_at S 0 q1
                rw [List.getElem?_eq_getElem h', he]
              have HHD := hid hhd
              clear hhd
              by_cases t48 : S[0].toNat = 48
              · have hb : Bad l := bad_of (.inr (.inr (by rw [HHD.out, ← UInt8.toNat_inj.1 (show S[0].toNat = (48 : UInt8).toNat from t48)])))
                have q48 : ((S[0].toNat : Int) == 48) = true := by rw [beq_iff_eq]; omega
                clear t48
                go_wp2_with fail
                exact bodyPost_ret (v := .tuple #[.agg #[.int .i64 0, .int .i64 0, .bool false, .bool false], .int .i64 5]) (by simp [results, Tryd.results8, go_sem]) rfl ⟨by rw [parseL, if_pos hb]; rfl, below0.out⟩
              · have q48 : ((S[0].toNat : Int) == 48) = false := by rw [beq_eq_false_iff_ne]; omega
                have HNB : Hid (¬ (r3 l = [] ∨ 7 < (r3 l).length ∨ (r3 l).head? = some 48)) := hid (by
                  rintro (h | h | h)
                  · rw [← HLEN.out, h] at q1; simp at q1
                  · rw [HLEN.out] at h; exact t7 h
                  · rw [HHD.out] at h; have h2 := Option.some.inj h; rw [h2] at t48; exact t48 rfl)
                clear t48
                go_wp2_with fail
                go_loop [9, 10] (fun r i => ∃ j : Nat, j ≤ S.size ∧ i = .int .i64 j ∧ r = .int .i64 (numN (S.data.toList.take j)) ∧ Hid (Digs (S.data.toList.take j))) (fun _ i => S.size - (intOf i).toNat)
                case atStart => exact ⟨0, Nat.zero_le _, rfl, rfl, hid (by simp [Digs])⟩
                case round =>
                  obtain ⟨j, hj, rfl, rfl, HJ⟩ := hrel
                  have hnl := num_le (S.data.toList.take j) (by rw [List.length_take]; omega) (fun c hc => (p_d2_iff _).1 (HJ.out c hc))
                  by_cases hjl : j < S.size
                  · have HS2 := hid (take_snoc S j hjl)
                    have HAT : Hid (∃ h : j < (r3 l).length, (r3 l)[j] = S[j]) := hid (by
                      obtain ⟨h', he⟩ := byte_at S j hjl
                      have h2 := HSL3.out
                      have h3 : j < (r3 l).length := by rw [HLEN.out]; exact hjl
                      refine ⟨h3, ?_⟩
                      rw [← he]
                      simp only [← h2])
                    by_cases hd : 48 ≤ S[j].toNat ∧ S[j].toNat ≤ 57
                    · obtain ⟨hd1, hd2⟩ := hd
                      go_wp2_with fail
                      go_round
                      case rel => exact ⟨j + 1, by omega, by go_num, by rw [HS2.out]; simp only [numN, List.foldl_append, List.foldl_cons, List.foldl_nil]; exact int_eq (by simp only [numN] at *; omega), hid (by
                        rw [HS2.out]; intro c hc
                        rcases List.mem_append.1 hc with hc | hc
                        · exact HJ.out c hc
                        · simp at hc; subst hc; exact (p_d2_iff _).2 ⟨hd1, hd2⟩)⟩
                      case measure => simp [intOf]; omega
                    · have hb : Bad l := by
                        obtain ⟨h3, he⟩ := HAT.out
                        refine bad_at h3 ?_
                        rw [he]
                        have : ¬ p_d2 S[j].toNat = true := fun e => hd ((p_d2_iff _).1 e)
                        simpa using this
                      have hd' : S[j].toNat < 48 ∨ 57 < S[j].toNat := by omega
                      clear hd
                      rcases hd' with hd | hd
                      all_goals
                        go_wp2_with fail
                        exact bodyPost_ret (v := .tuple #[.agg #[.int .i64 0, .int .i64 0, .bool false, .bool false], .int .i64 5]) (by simp [results, Tryd.results8, go_sem]) rfl ⟨by rw [parseL, if_pos hb]; rfl, below0.out⟩
                  · obtain rfl : j = S.size := by omega
                    have hta : S.data.toList.take S.size = r3 l := by rw [HSL3.out, ← HLEN.out, List.take_length]
                    have hall : ∀ c ∈ r3 l, p_d2 c.toNat = true := by rw [← hta]; exact HJ.out
                    obtain ⟨hnb, hdg⟩ := not_bad (l := l) (by rw [HCE.out]; exact h5) HNB.out hall
                    have HNBad := hid hnb
                    have hnn : numN (S.data.toList.take S.size) = numN (dgs l) := by rw [hta, hdg]
                    rw [hnn] at hnl ⊢
                    generalize hN : numN (dgs l) = n at *
                    have HN := hid hN
                    clear hN hnn hta hall hnb hdg HJ
                    by_cases hce : ce = 0
                    · subst hce
                      by_cases hbig : 1048576 < n
                      · go_wp2_with fail
                        exact bodyPost_ret (v := .tuple #[.agg #[.int .i64 0, .int .i64 0, .bool false, .bool false], .int .i64 11]) (by simp [results, Tryd.results8, go_sem]) rfl ⟨by rw [parseL, if_neg HNBad.out, if_pos (.inr (by rw [HN.out]; exact hbig))]; rfl, below0.out⟩
                      · go_wp2_with fail
                        exact bodyPost_ret (v := .tuple #[.agg #[.int .i64 n, .int .i64 cv, .bool G, .bool F], .int .i64 0]) (by simp [results, Tryd.results8, go_sem]) rfl ⟨by
                          rw [parseL, if_neg HNBad.out, if_neg (by rw [HCE.out, HN.out]; omega)]
                          rw [← HG.out, ← HF.out, HN.out, HCV.out]; rfl, (Below.refl _ _).alloc (Nat.le_refl _) _⟩
                    · have e0 : ((ce : Int) == 0) = false := by rw [beq_eq_false_iff_ne]; omega
                      have e1 : ((ce : Int) != 0) = true := by simp; omega
                      go_wp2_with fail
                      exact bodyPost_ret (v := .tuple #[.agg #[.int .i64 0, .int .i64 0, .bool false, .bool false], .int .i64 11]) (by simp [results, Tryd.results8, go_sem]) rfl ⟨by rw [parseL, if_neg HNBad.out, if_pos (.inl (by rw [HCE.out]; exact hce))]; rfl, below0.out⟩
end Go.Proofs.YtgfgbihcapkikaaDoor
