/- CsvEnds: the walk. -/
import Derived.Test.YtpkdnmjcommbmaaDoorLives
import Derived.Test.YtpkdnmjcommbmaaDoorBack
namespace Go.Proofs.YtpkdnmjcommbmaaDoor
open Go.RowKit Go.Shelf

set_option maxHeartbeats 4000000 in
/-- Rows that are too many, or too wide, are not written. -/
theorem write_big (sep : UInt8) (rows : List (List ByteArray)) (v : Value) (top : Nat) (w : World) (hv : RowsV top w v rows) (ht : top ≤ w.heap.size)
    (hne : ∀ r ∈ rows, r ≠ []) (hsep : (((sep.toNat : Nat) : Int) != 0 && ((sep.toNat : Nat) : Int) != 10 && ((sep.toNat : Nat) : Int) != 13 && ((sep.toNat : Nat) : Int) != 34) = true) (hn : rows.length ≤ 1048576) (hbig : 16384 < widest rows) (hw2 : widest rows ≤ 1000000000) :
    Calls Tryd.prog 6 #[v, .int .u8 (sep.toNat : Int)] w fun e w' => e = .returned (.tuple #[.string ⟨#[]⟩, .int .i64 7]) ∧ Below w.heap.size w w' := by
  have HV := hid hv
  have HC := hid hsep
  have HNE := hid hne
  clear hsep hne
  obtain ⟨svs, h1, h2, h3⟩ := hv
  obtain ⟨aa, ca, rfl, hac⟩ := h1.at
  rw [h2] at hac HV ⊢
  have HA := hid hac
  have H3 := hid h3
  have HSL := hid h2
  clear hac h1 h2 h3
  have HBIG := hid hbig
  have HW2 := hid hw2
  clear hbig hw2
  go_enter Tryd.func6, Tryd.ntmps6
  go_wp2_with fail
  refine (sep_any _ _).mono ?_
  rintro e w' ⟨rfl, rfl⟩
  rw [HC.out]
  go_wp2_with fail
  go_loop [18] (fun i => ∃ k : Nat, k ≤ rows.length ∧ i = .int .i64 k) (fun i => rows.length - (intOf i).toNat)
  case atStart => exact ⟨0, Nat.zero_le _, rfl⟩
  case round =>
    obtain ⟨k, hk, rfl⟩ := hrel
    by_cases hlt : k < rows.length
    · obtain ⟨b, off, rfl, hc⟩ := HA.out (by omega)
      obtain ⟨sv, hsv⟩ : ∃ sv, svs[k]? = some sv := ⟨_, getq (by have := HSL.out; omega)⟩
      obtain ⟨row, hrow⟩ : ∃ row, rows[k]? = some row := ⟨_, getq hlt⟩
      obtain ⟨a2, d2, rfl, _⟩ := (H3.out k sv row hsv hrow).at
      have hcell := hc k _ hsv
      simp only [strs, List.length_map] at hcell
      have hr0 : row.length ≠ 0 := by have := HNE.out row (List.mem_of_getElem? hrow); simpa using this
      have e0 : ((row.length : Int) == 0) = false := by rw [beq_eq_false_iff_ne]; omega
      clear hc hsv hrow
      go_wp2_with fail
      go_round
      case rel => exact ⟨k + 1, by omega, by go_num⟩
      case measure => simp [intOf]; omega
    · go_wp2_with fail
      generalize hwid : widest rows = wd
      have h1 : 16384 < wd := by rw [← hwid]; exact HBIG.out
      have h2 : wd ≤ 1000000000 := by rw [← hwid]; exact HW2.out
      have HWID := hid hwid
      clear hwid
      refine (wide_any top _ rows w HV.out ht (by omega)).mono ?_
      rw [HWID.out]
      rintro e w5 ⟨rfl, hb5⟩
      go_wp2_with fail
      go_ret2
      exact ⟨rfl, hb5⟩

def okB (c : UInt8) : Prop := c ≠ 10 ∧ c ≠ 13 ∧ c ≠ 34
theorem clean_iff (f : List UInt8) : clean f ↔ ∀ c ∈ f, okB c := by
  constructor
  · rintro ⟨h1, h2, h3⟩ c hc
    exact ⟨fun e => h1 (e ▸ hc), fun e => h2 (e ▸ hc), fun e => h3 (e ▸ hc)⟩
  · intro h
    exact ⟨fun hc => (h _ hc).1 rfl, fun hc => (h _ hc).2.1 rfl, fun hc => (h _ hc).2.2 rfl⟩
theorem bas_size (f : List UInt8) : (bas f).size = f.length := by show f.toArray.size = _; simp
theorem bas_get (f : List UInt8) (q : Nat) (x : UInt8) (h : f[q]? = some x) (hq : q < (bas f).size) : (bas f)[q]'hq = x := by
  show f.toArray[q]'hq = x
  have := List.getElem?_eq_some_iff.1 h
  obtain ⟨h1, h2⟩ := this
  rw [← h2]; rfl
theorem take_all {α : Type} {p : α → Prop} {l : List α} {k : Nat} {x : α} (h : ∀ y ∈ l.take k, p y) (hx : l[k]? = some x) (hp : p x) : ∀ y ∈ l.take (k + 1), p y := by
  intro y hy
  rw [List.take_add_one, hx] at hy
  rcases List.mem_append.1 hy with hy | hy
  · exact h y hy
  · simp at hy; subst hy; exact hp

theorem widest_le (N : Nat) : ∀ (l : List (List ByteArray)), (∀ r ∈ l, r.length ≤ N) → widest l ≤ N := by
  have h : ∀ (l : List (List ByteArray)) (m : Int), m ≤ N → (∀ r ∈ l, r.length ≤ N) → l.foldl (fun m r => max m (r.length : Int)) m ≤ N := by
    intro l
    induction l with
    | nil => intro m hm _; exact hm
    | cons x xs ih =>
      intro m hm h
      refine ih _ ?_ (fun r hr => h r (by simp [hr]))
      have := h x (by simp)
      show max m (x.length : Int) ≤ N
      omega
  exact fun l hl => h l 0 (by omega) hl

def EndsBound (sep : UInt8) (rows : List (List (List UInt8))) : Prop := rows.length ≤ 1048576 ∧ (∀ r ∈ rows, r.length ≤ 1048576 ∧ ∀ f ∈ r, f.length ≤ 1048576) ∧ (writeL sep rows).length ≤ 100000000
theorem read_sep (sep : UInt8) (l : List UInt8) (rows : List (List (List UInt8))) (m : Int) (w : World) (hm : w.cell? ⟨0, 0, none⟩ = some (.int .i64 m)) (hsep : (((sep.toNat : Nat) : Int) != 0 && ((sep.toNat : Nat) : Int) != 10 && ((sep.toNat : Nat) : Int) != 13 && ((sep.toNat : Nat) : Int) != 34) = true) (hl : l.length < 4294967281) (h : rowsL (l.length + 1) sep (l.length + 1) l = (rows, none)) (hb : bigR rows = false) :
    Calls Tryd.prog 7 #[.string (bas l), .int .u8 (sep.toNat : Int)] w fun e w' => ∃ v, e = .returned (.tuple #[v, .int .i64 0, .int .i64 0]) ∧ RowsV w'.heap.size w' v (rows.map fun r => r.map bas) ∧ Below w.heap.size w w' := by
  refine (read_any (bas l) sep m w (by show l.toArray.size < _; simpa using hl) hm hsep).mono ?_
  intro e w' h1
  have hsz : (bas l).size = l.length := by show l.toArray.size = _; simp
  have hdt : (bas l).data.toList = l := by show l.toArray.toList = l; simp
  rw [hsz, hdt, h] at h1
  obtain ⟨hb1, h2⟩ := h1
  simp only [hb] at h2
  obtain ⟨v, h3, h4⟩ := h2
  exact ⟨v, h3, h4, hb1⟩

set_option maxRecDepth 1000000 in
set_option maxHeartbeats 4000000 in
theorem ends_yes (sep : UInt8) (rows : List (List (List UInt8))) (v : Value) (top : Nat) (m : Int) (w : World) (hv : RowsV top w v (rows.map fun r => r.map bas)) (ht : top ≤ w.heap.size) (hm : w.cell? ⟨0, 0, none⟩ = some (.int .i64 m)) (hw0 : 0 < w.heap.size)
    (hsz : EndsBound sep rows)
    (hneeds : ∀ (al : Bool) (f : List UInt8) (c : UInt8), clean f → f.length ≤ 1048576 → ∀ W, Calls Tryd.prog 13 #[.string (bas f), .bool al, .int .u8 (c.toNat : Int)] W fun e W' => e = .returned (.bool ((al && f.isEmpty) || f.contains c)) ∧ Below W.heap.size W W') :
    Calls Tryd.prog 3 #[v, .int .u8 (sep.toNat : Int)] w fun e w' => e = .returned (.bool true) ∧ Below w.heap.size w w' := by
  have HV := hid hv
  have HZ := hid hsz
  have HND := hid hneeds
  clear hneeds
  obtain ⟨svs, h1, h2, h3⟩ := hv
  obtain ⟨aa, ca, rfl, _⟩ := h1.at
  have hsl : svs.length = rows.length := by simpa using h2
  rw [hsl] at h1 HV ⊢
  have H1 := hid h1
  have H3 := hid h3
  have HSL := hid hsl
  have hrl := hsz.1
  clear h1 h2 h3 hsl hsz
  go_enter Tryd.func3, Tryd.ntmps3
  go_wp2_with fail
  go_loop [5] (fun i => ∃ k : Nat, k ≤ rows.length ∧ i = .int .i64 k ∧ Hid (∀ r ∈ rows.take k, ∀ f ∈ r, clean f)) (fun i => rows.length - (intOf i).toNat)
  case atStart => exact ⟨0, Nat.zero_le _, rfl, hid (by simp)⟩
  case round =>
    obtain ⟨k, hk, rfl, HA⟩ := hrel
    by_cases hlt : k < rows.length
    · obtain ⟨sv, hsv⟩ : ∃ sv, svs[k]? = some sv := ⟨_, getq (by have := HSL.out; omega)⟩
      obtain ⟨row, hrow⟩ : ∃ row, rows[k]? = some row := ⟨_, getq hlt⟩
      have hmem := List.mem_of_getElem? hrow
      have hsl2 := H3.out k sv (row.map bas) hsv (by simp [hrow])
      have hll : (strs (row.map bas)).length = row.length := by simp [strs]
      obtain ⟨a2, d2, he, _⟩ := hsl2.at
      rw [hll] at he
      subst he
      clear hll
      obtain ⟨b, off, rfl, hcell⟩ := H1.out.get hsv
      obtain ⟨hrl2, hfl⟩ := HZ.out.2.1 row hmem
      have HFL := hid hfl
      have HROW := hid hrow
      have HSL2 := hid hsl2
      clear hmem hrow hsl2 hsv hfl
      go_wp2_with fail
      go_loop [6] (fun i => ∃ j : Nat, j ≤ row.length ∧ i = .int .i64 j ∧ Hid (∀ f ∈ row.take j, clean f)) (fun i => row.length - (intOf i).toNat)
      case atStart => exact ⟨0, Nat.zero_le _, rfl, hid (by simp)⟩
      case round =>
        obtain ⟨j, hj, rfl, HB⟩ := hrel
        by_cases hjl : j < row.length
        · obtain ⟨f, hf⟩ : ∃ f, row[j]? = some f := ⟨_, getq hjl⟩
          have hfl2 := HFL.out f (List.mem_of_getElem? hf)
          obtain ⟨b2, o2, rfl, hcell2⟩ := HSL2.out.get (k := j) (x := .string (bas f)) (by simp [strs, hf])
          have HF := hid hf
          have hbs := bas_size f
          clear hf
          go_wp2_with fail
          go_loop [7] (fun i => ∃ q : Nat, q ≤ f.length ∧ i = .int .i64 q ∧ Hid (∀ c ∈ f.take q, okB c)) (fun i => f.length - (intOf i).toNat)
          case atStart => exact ⟨0, Nat.zero_le _, rfl, hid (by simp)⟩
          case round =>
            obtain ⟨q, hq, rfl, HC⟩ := hrel
            by_cases hql : q < f.length
            · obtain ⟨x, hx⟩ : ∃ x, f[q]? = some x := ⟨_, getq hql⟩
              have hgx := bas_get f q x hx (by omega)
              have HX := hid hx
              clear hx
              by_cases hok : okB x
              · have n1 : ((x.toNat : Int) == 10) = false := by rw [beq_eq_false_iff_ne]; exact fun e => hok.1 (UInt8.toNat_inj.1 (by show x.toNat = 10; omega))
                have n2 : ((x.toNat : Int) == 13) = false := by rw [beq_eq_false_iff_ne]; exact fun e => hok.2.1 (UInt8.toNat_inj.1 (by show x.toNat = 13; omega))
                have n3 : ((x.toNat : Int) == 34) = false := by rw [beq_eq_false_iff_ne]; exact fun e => hok.2.2 (UInt8.toNat_inj.1 (by show x.toNat = 34; omega))
                have HOK := hid hok
                clear hok
                go_wp2_with fail
                go_round
                case rel => exact ⟨q + 1, by omega, by go_num, hid (take_all HC.out HX.out HOK.out)⟩
                case measure => simp [intOf]; omega
              · have hcases : x = 10 ∨ x = 13 ∨ x = 34 := by
                  by_cases h10 : x = 10
                  · exact .inl h10
                  · by_cases h13 : x = 13
                    · exact .inr (.inl h13)
                    · by_cases h34 : x = 34
                      · exact .inr (.inr h34)
                      · exact absurd ⟨h10, h13, h34⟩ hok
                clear hok
                rcases hcases with rfl | rfl | rfl
                · go_wp2_with fail
                  refine (lives_yes m w hm hw0).mono ?_
                  rintro e w' ⟨rfl, hb⟩
                  go_wp2_with fail
                  go_ret
                  exact ⟨rfl, hb⟩
                · go_wp2_with fail
                  refine (lives_yes m w hm hw0).mono ?_
                  rintro e w' ⟨rfl, hb⟩
                  go_wp2_with fail
                  go_ret
                  exact ⟨rfl, hb⟩
                · go_wp2_with fail
                  refine (lives_yes m w hm hw0).mono ?_
                  rintro e w' ⟨rfl, hb⟩
                  go_wp2_with fail
                  go_ret
                  exact ⟨rfl, hb⟩
            · have hqe : q = f.length := by omega
              subst hqe
              go_wp2_with fail
              go_round
              case rel =>
                have hcf : clean f := (clean_iff f).2 (by simpa using HC.out)
                exact ⟨j + 1, by omega, by go_num, hid (take_all HB.out HF.out hcf)⟩
              case measure => simp [intOf]; omega
        · have hje : j = row.length := by omega
          subst hje
          go_wp2_with fail
          go_round
          case rel => exact ⟨k + 1, by omega, by go_num, hid (take_all HA.out HROW.out (by simpa using HB.out))⟩
          case measure => simp [intOf]; omega
    · have hkr : k = rows.length := by omega
      subst hkr
      have hcl : ∀ r ∈ rows, ∀ f ∈ r, clean f := by simpa using HA.out
      have HCL := hid hcl
      clear hcl HA
      cases hbs : badSep (sep.toNat : Int) with
      | true =>
        have HBS := hid hbs
        clear hbs
        go_wp2_with fail
        refine (write_badsep _ _ _ HBS.out ⟨_, _, _, rfl⟩).mono ?_
        rintro e w' ⟨rfl, rfl⟩
        go_wp2_with fail
        refine (lives_yes m w hm hw0).mono ?_
        rintro e w' ⟨rfl, hb⟩
        go_wp2_with fail
        go_ret
        exact ⟨rfl, hb⟩
      | false =>
        have HBS := hid hbs
        have HSP := hid (show (((sep.toNat : Nat) : Int) != 0 && ((sep.toNat : Nat) : Int) != 10 && ((sep.toNat : Nat) : Int) != 13 && ((sep.toNat : Nat) : Int) != 34) = true by simpa only [badSep, Bool.not_eq_false'] using hbs)
        clear hbs
        by_cases hne : ∀ r ∈ rows, r ≠ []
        · have HNE := hid hne
          clear hne
          by_cases hwd : 16384 < widest (rows.map fun r => r.map bas)
          · have HWD := hid hwd
            clear hwd
            go_wp2_with fail
            refine (write_big sep (rows.map fun r => r.map bas) _ top w HV.out ht ?_ HSP.out (by simpa using hrl) HWD.out ?_).mono ?_
            · intro r hr
              obtain ⟨r', h1, rfl⟩ := List.mem_map.1 hr
              simpa using HNE.out r' h1
            · have := widest_le 1048576 (rows.map fun r => r.map bas) (by
                intro r hr
                obtain ⟨r', h1, rfl⟩ := List.mem_map.1 hr
                have := (HZ.out.2.1 r' h1).1
                simpa using this)
              omega
            rintro e w' ⟨rfl, hb⟩
            have hs := hb.size
            go_wp2_with fail
            refine (lives_yes m w' (bcell hb hw0 hm) (by omega)).mono ?_
            rintro e w2 ⟨rfl, hb2⟩
            go_wp2_with fail
            go_ret
            exact ⟨rfl, hb.trans (hb2.mono hs)⟩
          · have hbg : bigR rows = false := by
              simp only [bigR, Bool.or_eq_false_iff, decide_eq_false_iff_not]
              exact ⟨by omega, hwd⟩
            have HBG := hid hbg
            clear hbg hwd
            go_wp2_with fail
            refine (write_any sep rows _ top m w HV.out ht HNE.out HSP.out HBG.out HCL.out (by have := HZ.out.2.2; omega) hm hw0 (fun r hr f hf W => HND.out _ f sep (HCL.out r hr f hf) ((HZ.out.2.1 r hr).2 f hf) W)).mono ?_
            rintro e w3 ⟨rfl, hb3⟩
            have hs3 := hb3.size
            have hm3 := bcell hb3 hw0 hm
            by_cases hr0 : rows = []
            · subst hr0
              rw [show bas (writeL sep []) = ⟨#[]⟩ from rfl]
              go_wp2_with fail
              refine (lives_yes m w3 hm3 (by omega)).mono ?_
              rintro e w4 ⟨rfl, hb4⟩
              go_wp2_with fail
              go_ret
              exact ⟨rfl, hb3.trans (hb4.mono hs3)⟩
            · have e0 : ((rows.length : Int) == 0) = false := by
                rw [beq_eq_false_iff_ne]
                have : rows.length ≠ 0 := by simpa using hr0
                omega
              have hL0 : (writeL sep rows).length ≠ 0 := by
                cases rows with
                | nil => exact absurd rfl hr0
                | cons r rs => simp [writeL, rowW]
              have hLb : (writeL sep rows).length ≤ 100000000 := HZ.out.2.2
              generalize hLL : writeL sep rows = L at *
              have HLL := hid hLL
              clear hLL
              have hbs := bas_size L
              have hem : (bas L).toList.isEmpty = false := by
                rw [Lib.toList_data]
                show L.toArray.toList.isEmpty = false
                cases L with
                | nil => exact absurd rfl hL0
                | cons _ _ => rfl
              have e1 : ((L.length : Int) == 0) = false := by rw [beq_eq_false_iff_ne]; omega
              go_wp2_with fail
              go_loop [11, 12] (fun t i => ∃ k : Nat, k ≤ L.length ∧ i = .int .i64 k ∧ t = .string (bas (crlf (L.take k)))) (fun _ i => L.length - (intOf i).toNat)
              case atStart => exact ⟨0, Nat.zero_le _, rfl, rfl⟩
              case round =>
                obtain ⟨k, hk, rfl, rfl⟩ := hrel
                by_cases hkl : k < L.length
                · obtain ⟨x, hx⟩ : ∃ x, L[k]? = some x := ⟨_, getq hkl⟩
                  have hgx := bas_get L k x hx (by omega)
                  have HX := hid hx
                  clear hx
                  have hcs : (bas (crlf (L.take k))).size ≤ 200000000 := by
                    rw [bas_size]
                    have := crlf_len (L.take k)
                    rw [List.length_take] at this
                    omega
                  have hex : (bas L).extract k (k + 1) = bas [x] := by
                    apply ByteArray.ext
                    apply Array.ext'
                    rw [show ((bas L).extract k (k + 1)).data.toList = _ from Lib.extract_data _ _ _]
                    show (L.drop k).take (k + 1 - k) = [x]
                    obtain ⟨h1, h2⟩ := List.getElem?_eq_some_iff.1 HX.out
                    rw [List.drop_eq_getElem_cons h1, h2]
                    simp
                  have hstep : crlf (L.take (k + 1)) = crlf (L.take k) ++ (if x = 10 then [13, 10] else [x]) := by
                    rw [List.take_add_one, HX.out, crlf_app]
                    congr 1
                    simp [crlf]
                  have HSTEP := hid hstep
                  clear hstep
                  have hx1 : (bas [x]).size ≤ 1 := by rw [bas_size]; simp
                  have hAB : ∀ a b : List UInt8, bas a ++ bas b = bas (a ++ b) := by
                    intro a b
                    apply ByteArray.ext
                    simp [bas, ByteArray.data_append]
                  have HAB := hid hAB
                  clear hAB
                  by_cases hx10 : x = 10
                  · subst hx10
                    have hcs2 : (bas (crlf (L.take k)) ++ (⟨#[13]⟩ : ByteArray)).size ≤ 200000001 := by
                      rw [ByteArray.size_append]
                      have : (⟨#[13]⟩ : ByteArray).size = 1 := rfl
                      omega
                    generalize hY : bas [10] = Y at *
                    go_wp2_with fail
                    go_round
                    case rel =>
                      refine ⟨k + 1, by omega, by go_num, ?_⟩
                      rw [HSTEP.out, if_pos rfl, ← hY, show (⟨#[13]⟩ : ByteArray) = bas [13] from rfl, HAB.out, HAB.out]
                      simp
                    case measure => simp [intOf]; omega
                  · have n1 : ((x.toNat : Int) == 10) = false := by rw [beq_eq_false_iff_ne]; exact fun e => hx10 (UInt8.toNat_inj.1 (by show x.toNat = 10; omega))
                    generalize hY : bas [x] = Y at *
                    go_wp2_with fail
                    go_round
                    case rel =>
                      refine ⟨k + 1, by omega, by go_num, ?_⟩
                      rw [HSTEP.out, if_neg hx10, ← hY, HAB.out]
                    case measure => simp [intOf]; omega
                · have hke : k = L.length := by omega
                  subst hke
                  rw [List.take_length]
                  have hb1 := crlf_len L
                  have hsp := HSP.out
                  have s34 : sep ≠ 34 := by rintro rfl; exact absurd hsp (by decide)
                  have s10 : sep ≠ 10 := by rintro rfl; exact absurd hsp (by decide)
                  have s13 : sep ≠ 13 := by rintro rfl; exact absurd hsp (by decide)
                  have HB1 := hid (back_one s34 s10 s13 rows HNE.out HCL.out)
                  have HB2 := hid (back_two s34 s10 s13 rows hr0 HNE.out HCL.out)
                  rw [HLL.out] at HB1 HB2
                  clear hsp s34 s10 s13
                  have hcut : (bas L).extract 0 (L.length - 1) = bas L.dropLast := by
                    apply ByteArray.ext
                    apply Array.ext'
                    rw [show ((bas L).extract 0 (L.length - 1)).data.toList = _ from Lib.extract_data _ _ _]
                    show (L.drop 0).take (L.length - 1 - 0) = L.dropLast
                    simp [List.dropLast_eq_take]
                  have HCUT := hid hcut
                  clear hcut
                  go_wp2_with fail
                  refine (read_sep sep (crlf L) rows m w3 hm3 HSP.out (by omega) HB1.out HBG.out).mono ?_
                  rintro e w4 ⟨va, rfl, hra, hb4⟩
                  have hs4 := hb4.size
                  have hm4 := bcell hb4 (by omega) hm3
                  have HRA := hid hra
                  clear hra
                  go_wp2_with fail
                  rw [HCUT.out]
                  refine (read_sep sep L.dropLast rows m w4 hm4 HSP.out (by simp; omega) HB2.out HBG.out).mono ?_
                  rintro e w5 ⟨vb, rfl, hrb, hb5⟩
                  have hs5 := hb5.size
                  have hm5 := bcell hb5 (by omega) hm4
                  have HRB := hid hrb
                  clear hrb
                  have hb45 : Below w.heap.size w w5 := (hb3.trans (hb4.mono hs3)).trans (hb5.mono (by omega))
                  have HBD := hid (show ∀ r ∈ rows.map (fun r => r.map bas), r.length ≤ 140737488355328 by
                    intro r hr
                    obtain ⟨r', h1, rfl⟩ := List.mem_map.1 hr
                    have := (HZ.out.2.1 r' h1).1
                    simp; omega)
                  go_wp2_with fail
                  refine (same_yes w5.heap.size _ _ (rows.map fun r => r.map bas) w5 ((HRA.out.below hb5 (Nat.le_refl _)).top (by omega)) ((HV.out.below hb45 ht).top (by omega)) (by simp; omega) HBD.out).mono ?_
                  rintro e w6 ⟨rfl, n6, rfl⟩
                  have hb56 : Below w5.heap.size w5 (w5.drewN n6) := bdrew (Below.refl _ _) n6
                  have hs6 : (w5.drewN n6).heap.size = w5.heap.size := rfl
                  have HS6 := hid hs6
                  clear hs6
                  generalize w5.drewN n6 = w6 at *
                  go_wp2_with fail
                  refine (same_yes w6.heap.size _ _ (rows.map fun r => r.map bas) w6 ((HRB.out.below hb56 (Nat.le_refl _)).top (by have := HS6.out; omega)) ((HV.out.below (hb45.trans (hb56.mono (by omega))) ht).top (by have := HS6.out; omega)) (by simp; omega) HBD.out).mono ?_
                  rintro e w7 ⟨rfl, n7, rfl⟩
                  have hb7 : Below w.heap.size w (w6.drewN n7) := bdrew (hb45.trans (hb56.mono (by omega))) n7
                  generalize w6.drewN n7 = w7 at *
                  have hs7 := hb7.size
                  go_wp2_with fail
                  refine (lives_yes m w7 (bcell hb7 hw0 hm) (by omega)).mono ?_
                  rintro e w8 ⟨rfl, hb8⟩
                  go_wp2_with fail
                  go_ret
                  exact ⟨rfl, hb7.trans (hb8.mono hs7)⟩
        · have hz : ∃ (i : Nat) (r : List (List UInt8)), rows[i]? = some r ∧ r = [] := by
            simp only [Classical.not_forall] at hne
            obtain ⟨r, hr, h0⟩ := hne
            obtain ⟨i, hi⟩ := List.getElem?_of_mem hr
            exact ⟨i, r, hi, by simpa using h0⟩
          clear hne
          obtain ⟨i, r, hi, rfl⟩ := hz
          have hil : i < rows.length := (List.getElem?_eq_some_iff.1 hi).1
          have hcells : Hid (∃ b off, aa = some ⟨b, off, none⟩ ∧ ∀ i, i < rows.length → ∃ a' n' cap', w.cell? ⟨b, off + i, none⟩ = some (.slice a' n' cap') ∧ n' ≤ 140737488355328) := by
            rcases H1.out with ⟨⟨_, _, h1⟩, _⟩ | ⟨b, off, cap, h1, _, hc⟩
            · injection h1 with h1 h2 h3; omega
            · injection h1 with h1 h2 h3
              refine ⟨b, off, h1, fun j hj => ?_⟩
              obtain ⟨sv, hsv⟩ : ∃ sv, svs[j]? = some sv := ⟨_, getq (by have := HSL.out; omega)⟩
              obtain ⟨row, hrow⟩ : ∃ row, rows[j]? = some row := ⟨_, getq hj⟩
              obtain ⟨a2, d2, he, _⟩ := (H3.out j sv (row.map bas) hsv (by simp [hrow])).at
              have hll : (strs (row.map bas)).length = row.length := by simp [strs]
              rw [hll] at he
              have := (HZ.out.2.1 row (List.mem_of_getElem? hrow)).1
              exact ⟨a2, row.length, d2, by rw [← he]; exact hc j sv hsv, by omega⟩
          have hzz : Hid (∃ i a' cap', i < rows.length ∧ ∃ b off, aa = some ⟨b, off, none⟩ ∧ w.cell? ⟨b, off + i, none⟩ = some (.slice a' 0 cap')) := by
            rcases H1.out with ⟨⟨_, _, h1⟩, _⟩ | ⟨b, off, cap, h1, _, hc⟩
            · injection h1 with h1 h2 h3; omega
            · injection h1 with h1 h2 h3
              obtain ⟨sv, hsv⟩ : ∃ sv, svs[i]? = some sv := ⟨_, getq (by have := HSL.out; omega)⟩
              obtain ⟨a2, d2, he, _⟩ := (H3.out i sv [] hsv (by simp [hi])).at
              exact ⟨i, a2, d2, hil, b, off, h1, by have := hc i sv hsv; rw [this, he]; rfl⟩
          clear hi hil
          go_wp2_with fail
          refine (write_empty aa rows.length ca _ w HBS.out (by omega) hcells hzz).mono ?_
          rintro e w' ⟨rfl, rfl⟩
          go_wp2_with fail
          refine (lives_yes m w hm hw0).mono ?_
          rintro e w' ⟨rfl, hb⟩
          go_wp2_with fail
          go_ret
          exact ⟨rfl, hb⟩
end Go.Proofs.YtpkdnmjcommbmaaDoor
