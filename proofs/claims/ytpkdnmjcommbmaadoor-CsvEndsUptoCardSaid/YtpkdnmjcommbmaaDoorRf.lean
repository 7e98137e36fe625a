/- A range over a function, with no condition on what its body writes: the statement, one round, and how the function leaves. No program is named. -/
import Derived.RangeFuncNested
import Derived.RangeFuncLeaves
namespace Go.Rf
open Go
variable {P : Program}

/-- The loop's record at its start. -/
def rec0 (fn : FuncId) (tmps : Array Value) (ps : Array Tmp) (assign body : Code) (d : Nat) : Loop :=
  { state := .ready, pending := none, fn, tmps, params := ps, assign, body, defers := d }
/-- The world in which the iterator is called. -/
def loopWorld (w : World) (r : Loop) : World := (w.alloc (.deferred (some []))).alloc (.loop r)
def mark (D : Nat) : Deferred := { target := .collected D, args := #[] }
theorem loopWorld_size (w : World) (r : Loop) : (loopWorld w r).heap.size = w.heap.size + 2 := by simp [loopWorld]
theorem loopWorld_rec (w : World) (r : Loop) : (loopWorld w r).heap[w.heap.size + 1]? = some (.loop r) := by
  have := World.alloc_heap_new (w.alloc (.deferred (some []))) (.loop r)
  rwa [World.size_alloc] at this
theorem loopWorld_mark (w : World) (r : Loop) : (loopWorld w r).heap[w.heap.size]? = some (.deferred (some [])) :=
  (RowKit.Below.heap_alloc _ _ _ (by simp)).trans (World.alloc_heap_new w _)
theorem loopWorld_old (w : World) (r : Loop) (k : Nat) (hk : k < w.heap.size) : (loopWorld w r).heap[k]? = w.heap[k]? :=
  (RowKit.Below.heap_alloc _ _ _ (by simp; omega)).trans (RowKit.Below.heap_alloc w _ k hk)
theorem loopWorld_below (w : World) (r : Loop) : RowKit.Below w.heap.size w (loopWorld w r) :=
  ((RowKit.Below.refl _ w).alloc (Nat.le_refl _) _).alloc (by simp) _

/-- What stands behind the statement: the pending jump, if any, or the rest. -/
def after (P : Program) (Q : Exit → Act → World → Prop) (a : Act) (w : World) : Option Code → Prop
  | none => Q .normal a w
  | some c => c.wp P Q a w

theorem after_none {Q : Exit → Act → World → Prop} {a : Act} {w : World} {p : Option Code} (h : p = none) (hq : Q .normal a w) : after P Q a w p := by subst h; exact hq
theorem after_some {Q : Exit → Act → World → Prop} {a : Act} {w : World} {p : Option Code} {c : Code} (h : p = some c) (hq : c.wp P Q a w) : after P Q a w p := by subst h; exact hq
/-- **The statement**, outside of any round. -/
theorem wp_rangeFunc {n : Nat} {g : Operand} {ps : Array Tmp} {assign body : Code} {Q : Exit → Act → World → Prop} {a : Act} {w : World} {gf : FuncId} {lb : Array Value}
    (hg : a.eval g = .func (.func gf) #[] lb) (eg : ∀ args w, (callFunc gf args).run P w = .ok (.enter gf args) w)
    (h : ∀ fn, CallsIn Fence.wide n P gf (#[.func (.yield (w.heap.size + 1)) #[] #[]] ++ lb) (loopWorld w (rec0 fn a.tmps ps assign body w.heap.size)) fun e W' => (∃ v, e = .returned v) ∧
      ∃ r, W'.heap[w.heap.size + 1]? = some (.loop r) ∧ r.state ≠ .busy ∧ after P Q { a with defers := mark w.heap.size :: a.defers } (W'.putObj (w.heap.size + 1) (.loop { r with state := .exhausted })) r.pending) :
    (Code.rangeFunc g ps assign body).wp P Q a w := by
  refine (wpIn_wide (n := n + 1)).1 (wpIn_rangeFunc fun fn _ => ?_)
  refine ⟨w.heap.size + 1, [mark w.heap.size], loopWorld w (rec0 fn a.tmps ps assign body w.heap.size), { target := .fn (.func gf) lb, args := #[.func (.yield (w.heap.size + 1)) #[] #[]] }, loopWorld w (rec0 fn a.tmps ps assign body w.heap.size), gf,
    #[.func (.yield (w.heap.size + 1)) #[] #[]] ++ lb, loopWorld w (rec0 fn a.tmps ps assign body w.heap.size), ?_, ?_, fun _ _ => trivial, ?_, fun h => by simp [Fence.wide] at h, ?_⟩
  · exact run_enterLoop_outer fn a.tmps ps assign body
  · simp only [resolve, hg]
    simp [go_sem]
  · simp [invoke, go_sem, eg]
  · refine (h fn).mono ?_
    rintro e W' ⟨⟨v, rfl⟩, r, hr, hb, hq⟩
    refine ⟨r.pending, _, run_endLoop hr hb, ?_⟩
    cases hp : r.pending with
    | none => rw [hp] at hq; exact hq
    | some c => rw [hp] at hq; exact wpIn_wide.2 hq

/-- What a round's body owes. -/
def roundQ (l : Nat) (R : Ending → World → Prop) : Exit → Act → World → Prop
  | .normal, _, w => ∃ r, w.heap[l]? = some (.loop r) ∧ R (.returned (.bool true)) (w.putObj l (.loop { r with state := .ready, pending := none }))
  | .ret, _, w => ∃ r, w.heap[l]? = some (.loop r) ∧ R (.returned (.bool false)) (w.putObj l (.loop { r with state := .done, pending := some .ret }))
  | .exit id, _, w => ∃ r, w.heap[l]? = some (.loop r) ∧ R (.returned (.bool false)) (w.putObj l (.loop { r with state := .done, pending := some (.exit id) }))
  | .goto t, _, w => ∃ r, w.heap[l]? = some (.loop r) ∧ R (.returned (.bool false)) (w.putObj l (.loop { r with state := .done, pending := some (.goto t) }))
  | _, _, _ => False

/-- **One round**, as the iterator calls it. -/
theorem yield_round {n l : Nat} {r : Loop} {args : Array Value} {W : World} {R : Ending → World → Prop} (hl : W.heap[l]? = some (.loop r)) (hs : args.size = r.params.size)
    (h : ∀ K : Act → World → Prop, (∀ a₁ w₁, (∃ r', w₁.heap[l]? = some (.loop r') ∧ r'.state = .ready ∧
      r.body.wpIn (Fence.wide.inRound l) n P (roundQ l R) a₁ (w₁.putObj l (.loop { r' with state := .busy }))) → K a₁ w₁) → r.assign.wpIn (Fence.wide.inRound l) n P (Exit.then K (fun _ _ _ => False))
      { tmps := (r.params.zip args).foldl (fun tmps (t, a) => tmps.setIfInBounds t a) r.tmps, defers := [] } W) :
    YieldAt Fence.wide n P l args W R := by
  refine ⟨r.fn, _, r.assign, r.body, run_yield hl hs, roundIn_of_wpIn trivial ?_⟩
  refine wpIn_mono (h _ (fun _ _ h => h)) fun e a₁ w₁ hq => ?_
  cases e with
  | normal =>
    obtain ⟨r', hr', hst, hb⟩ := hq
    refine ⟨_, run_beginRound hr' hst, wpIn_mono hb fun e a₂ w₂ hq2 => ?_⟩
    cases e with
    | normal =>
      obtain ⟨r2, h2, h3⟩ := hq2
      exact ⟨_, _, run_endRound none h2, h3⟩
    | ret =>
      obtain ⟨r2, h2, h3⟩ := hq2
      exact ⟨_, _, run_endRound (some .ret) h2, h3⟩
    | exit id =>
      obtain ⟨r2, h2, h3⟩ := hq2
      exact ⟨_, _, run_endRound (some (.exit id)) h2, h3⟩
    | goto t =>
      obtain ⟨r2, h2, h3⟩ := hq2
      exact ⟨_, _, run_endRound (some (.goto t)) h2, h3⟩
    | panic _ => exact hq2.elim
    | outgrown => exact hq2.elim
  | exit _ => exact hq.elim
  | goto _ => exact hq.elim
  | ret => exact hq.elim
  | panic _ => exact hq.elim
  | outgrown => exact hq.elim

/-- All but the marks' blocks as before. -/
structure Shut (Ds : List Nat) (w w' : World) : Prop where
  os : w'.os = w.os
  tape : w'.tape = w.tape
  output : w'.output = w.output
  size : w'.heap.size = w.heap.size
  block : ∀ k, k ∉ Ds → w'.heap[k]? = w.heap[k]?

theorem Shut.below {Ds : List Nat} {n : Nat} {a w w' : World} (h : Shut Ds w w') (hb : RowKit.Below n a w) (hD : ∀ D ∈ Ds, n ≤ D) : RowKit.Below n a w' :=
  hb.trans ⟨h.os, h.tape, h.output, by rw [h.size]; exact Nat.le_refl _, fun k hk => h.block k (fun hm => by have := hD k hm; omega)⟩
theorem Shut.other {Ds : List Nat} {w w' : World} (h : Shut Ds w w') (hD : ∀ D ∈ Ds, w.heap[D]? = some (.deferred (some []))) {k : Nat} {o : Obj} (hk : w.heap[k]? = some o) (ho : ∀ d, o ≠ .deferred d) : w'.heap[k]? = some o := by
  rw [h.block k (fun hm => by have := hD k hm; rw [hk] at this; exact ho _ (Option.some.inj this)), hk]
/-- How the function leaves: each mark's block is shut. -/
theorem leaves_marks {F : Fence} {n : Nat} {fn : Func} {tmps : Array Value} {R : Ending → World → Prop} : ∀ (Ds : List Nat) (w : World), Ds.Nodup → (∀ D ∈ Ds, w.heap[D]? = some (.deferred (some []))) →
    (∀ w', Shut Ds w w' → ∃ v, (results fn tmps).run P w' = .ok v w' ∧ R (.returned v) w') → LeavesInM F n P fn tmps R (Ds.map mark) .returning w
  | [], w, _, _, h => h w ⟨rfl, rfl, rfl, rfl, fun _ _ => rfl⟩
  | D :: Ds, w, hn, hD, h => by
    rw [List.nodup_cons] at hn
    refine ⟨by simp, .inl ⟨D, w.putObj D (.deferred none), rfl, run_takeDeferred (hD D (by simp)), ?_⟩⟩
    refine leaves_marks Ds _ hn.2 (fun D' hD' => ?_) (fun w' hw' => ?_)
    · exact (World.putObj_heap_other (by intro e; subst e; exact hn.1 hD')).trans (hD D' (by simp [hD']))
    · refine h w' ⟨hw'.os, hw'.tape, hw'.output, by rw [hw'.size]; simp, fun k hk => ?_⟩
      simp only [List.mem_cons, not_or] at hk
      exact (hw'.block k hk.2).trans (World.putObj_heap_other hk.1)

/-- A function's contract where its body holds a range over a function: an unfenced walk. -/
theorem calls_of_marks {f : FuncId} {fn : Func} {c : Code} {args : Array Value} {w : World} {R : Ending → World → Prop}
    (hf : P.funcs[f]? = some fn) (hb : fn.body = some c)
    (h : c.wp P (bodyPostM Fence.wide 1 P fn R) { tmps := args ++ Array.replicate (fn.ntmps - args.size) undef, defers := [] } w) : Calls P f args w R :=
  callsIn_wide.1 (callsIn_of_wp_marks hf hb trivial (wpIn_wide.2 h))
/-- The way out, at the end of the body or at a return. -/
theorem out_ret {fn : Func} {a : Act} {w : World} {R : Ending → World → Prop} (Ds : List Nat) (hd : a.defers = Ds.map mark) (hn : Ds.Nodup) (hD : ∀ D ∈ Ds, w.heap[D]? = some (.deferred (some [])))
    (h : ∀ w', Shut Ds w w' → ∃ v, (results fn a.tmps).run P w' = .ok v w' ∧ R (.returned v) w') : bodyPostM Fence.wide 1 P fn R .ret a w := by
  show LeavesInM _ _ _ _ _ _ a.defers _ _
  rw [hd]; exact leaves_marks Ds w hn hD h
end Go.Rf
