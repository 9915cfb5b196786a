/- DeltaPlain: for every state the call returns true, and the state reads as before: the row and the tied card. No condition. -/
import Derived.Test.YtaepllhjnbencaaGreatDoorMuPlain4
import Derived.Test.YtaepllhjnbencaaGreatDoorMuRow1
namespace Go.Proofs.YtaepllhjnbencaaGreatDoor
open Go.ChangeShapes Go.WideShapes Go.ChangeAt Go.RowKit
open Go (Value World)
set_option linter.unusedVariables false
set_option maxRecDepth 100000
theorem le_sum {α : Type} (f : α → Nat) : ∀ (l : List α) (x : α), x ∈ l → f x ≤ (l.map f).sum
  | [], x, h => by simp at h
  | y :: r, x, h => by
    simp only [List.map_cons, List.sum_cons]
    rcases List.mem_cons.1 h with rfl | h
    · omega
    · have := le_sum f r x h; omega
theorem ne_laid {W : World} (h : laidMetH Tryz.prog Rows.deltaPlainRow.laid W) : Mu.NE W := by
  rw [MakeChecks.laidMetH_plain _ _ _ (by kernel_rfl)] at h
  obtain ⟨ps, hl, _⟩ := h
  obtain ⟨g, t, cs, fuel, p, q, _, _, hv, _⟩ := hl
  unfold World.var? at hv
  obtain ⟨g', h1, h2⟩ := Option.bind_eq_some_iff.1 hv
  split at h2
  · rename_i c t' fr hh
    exact ⟨g', c, t', fr, hh⟩
  · cases h2
/-- the call, in the model -/
theorem runsPlain {W : World} {v : Value} {ρ : Mu.Rho} {m : Mu.M} {I : Mu.Fz} {x : Mu.V} {s : Mu.State} (hr : Mu.RO ρ m I W) (hx : Mu.VR ρ x v) (hu : Mu.R' I x (.agg (Mu.encState s))) (hs : s.Wf) :
    Go.Calls Tryz.prog 7 #[v] W fun e W' => e = .returned (.bool true) ∧ Below W.heap.size W W' := by
  obtain ⟨m', hc⟩ := Ir.c_DeltaPlain (k := s.ss.length + s.ws.length + (s.ss.map fun x => x.links.length).sum + (s.ws.map fun x => x.cells.length).sum + 1) hr.fz hu hs.fits (by omega)
    (fun x hx => by have := le_sum (fun x : Mu.Sess => x.links.length) s.ss x hx; omega) (fun x hx => by have := le_sum (fun x : Mu.Win => x.cells.length) s.ws x hx; omega)
  have h := Mu.callF_ok Ir.ok1 _ 7 [x] m (by rw [hc]; intro h; cases h) ρ W #[v] (by simp only [Mu.VRL]; exact ⟨v, [], rfl, hx, rfl⟩) hr.mr
  rw [hc] at h
  unfold Mu.FnRuns at h
  rw [Tryz.call7] at h
  refine Go.Calls.mono h ?_
  intro en W' he
  cases en with
  | returned y =>
    obtain ⟨ρ', h1, g⟩ := he
    simp only [Mu.VR] at h1
    subst h1
    exact ⟨rfl, below_ro g hr.ro⟩
  | _ => exact he.elim
theorem liftedPlain (os : Os) (started : os.Started) (H : Type) (enc : TypeId × Value → H) :
    ReturnsInHanded {} Tryz.checked os 7 .any (fun w args => (Rows.deltaPlainSpec.pre enc Tryz.prog Tryz.f7 Rows.deltaPlainRow.domain false w args ∧ laidMetH Tryz.prog Rows.deltaPlainRow.laid w) ∧ sizedMet enc Tryz.prog Tryz.f7 (OpenSpec.ofChange Rows.deltaPlainSpec) false w args)
      (Rows.deltaPlainSpec.post enc Tryz.prog Tryz.f7 false true false false) := by
  refine returnsInHanded_of_change_and (C := Tryz.checked) (X := fun w _ => laidMetH Tryz.prog Rows.deltaPlainRow.laid w) (fun _ _ _ hh h => h.of_heap hh) own started (by kernel_rfl) Tryz.func7
    (ChangeSpec.witness_shaped (enc := enc) (C := Tryz.checked) (os := os) (X := fun w _ => laidMetH Tryz.prog Rows.deltaPlainRow.laid w) false (World.laidAll Tryz.prog os Rows.deltaPlainRow.laid) #[.agg #[.slice none 0 0, .slice none 0 0]] 8 (World.laidAll_os _ _ _)
      (World.shaped_of_ZipB (by kernel_rfl) (by kernel_rfl)) (by kernel_rfl) (by kernel_rfl) (by kernel_rfl)
      (by rw [MakeChecks.laidMetH_plain _ _ _ (by kernel_rfl)]; exact laidMet_laidAll _ (by kernel_rfl) (by kernel_rfl))) ?_
  intro W base args ds gs before hval0 hW hc hwt hL _
  have hval : ∀ (j : Nat) t v, Tryz.f7.params[j]? = some t → args[j]? = some v → Value.okWide Tryz.prog W .any base t v := hval0
  have hW' := hW
  obtain ⟨p, q, hA0, hV, rfl, _, _⟩ := hW
  have hA : DataW.TrodAll enc Tryz.prog W 0 (fun _ => true) true Tryz.f7.params.toList args.toList ds p := hA0
  have hwt' : (DataW.weightsEach Tryz.prog (Tryz.f7.params.toList ++ []) (ds ++ gs)).all (· ≤ reachBytes) = true := hwt
  rw [Tryz.params7] at hA hval hwt'
  obtain ⟨v0, d0, rfl, rfl, h0⟩ := trodAll_one hA
  obtain ⟨rfl, rfl⟩ := trodVars_none hV
  obtain ⟨cs0, hv0, _⟩ := okWide_struct Tryz.underlying25 (hval 0 25 v0 rfl rfl)
  have hw0 : ∀ k ∈ DataW.weights Tryz.prog 25 d0, k ≤ reachBytes := by
    intro k hk
    have := List.all_eq_true.1 hwt' k (by simp [DataW.weightsEach, hk])
    simpa using this
  obtain ⟨ρ, m, I, x, us, hr, _, _, _, hx, hu, hS⟩ := arg_open Ir.oState (ne_laid hL) hv0 h0 hw0 _ _ _ (ro0 W)
  obtain ⟨s, rfl, hs⟩ := Ir.SState.inv us hS
  have k0 := h0
  have lt0 : ∀ x ∈ p, x.block < W.heap.size := by obtain ⟨m, hm⟩ := k0; exact DataW.trod_lt m _ _ _ hm
  refine (runsPlain hr hx hu hs).mono fun e W' ⟨he, bel⟩ => ?_
  subst he
  exact ⟨_, rfl, _, _, _, [], _, [], hW', trodAll_mk1 (shut_bool Tryz.underlying4 _), trodAll_mk1 (Below.trod laidOut (by kernel_rfl) (of_decide_eq_true (by kernel_rfl)) k0 bel lt0), rfl, bel.frame _, fun h => by cases h⟩
/-- what the closing asks, one at a time: together they are too large for one theorem -/
theorem plainJ0 : (Rows.deltaPlainRow.wf (OpenSpec.ofChange Rows.deltaPlainSpec)) = true := by kernel_rfl
theorem plainJ1 : (mapsRowed Tryz.prog) = true := by kernel_rfl
theorem plainJ2 : (Rows.deltaPlainRow.inPlace == Tryz.prog.inPlace 7) = true := by kernel_rfl
theorem plainJ3 : (Rows.deltaPlainRow.unfollowed == Tryz.prog.unfollowed 7) = true := by kernel_rfl
theorem plainJ4 : (Rows.deltaPlainRow.recurses == Tryz.prog.recurses 7) = true := by kernel_rfl
theorem plainJ5 : (Rows.deltaPlainRow.named == Tryz.prog.varsNamed 7) = true := by kernel_rfl
theorem plainJ6 : (Rows.deltaPlainRow.plainKeys == Tryz.prog.plainKeys) = true := by kernel_rfl
theorem plainJ7 : (Tryz.prog.stopsHeard) = true := by kernel_rfl
theorem plainJ8 : (Tryz.prog.mayEnter) = true := by kernel_rfl
theorem plainJ9 : (Rows.deltaPlainRow.lifted == Tryz.prog.liftsFinal) = true := by kernel_rfl
theorem plainJ10 : (Tryz.prog.make == some Rows.deltaPlainRow.make) = true := by kernel_rfl
theorem plainJ : joinedFacts Tryz.prog 7 Tryz.f7 Rows.deltaPlainSpec Rows.deltaPlainRow = true := by
  unfold joinedFacts
  rw [plainJ0, plainJ1, plainJ2, plainJ3, plainJ4, plainJ5, plainJ6, plainJ7, plainJ8, plainJ9, plainJ10, laidOut]
  kernel_rfl
theorem plainNamed : Tryz.prog.funcNamed "mullion/mullionlaw08.DeltaPlain" = some 7 := by kernel_rfl
theorem plainInst : Tryz.f7.isInstance Tryz.prog Rows.deltaPlainRow.origin Rows.deltaPlainRow.targs := of_decide_eq_true (by kernel_rfl)
theorem plainWrap : Tryz.f7.isWrapper Tryz.prog Rows.deltaPlainRow.wrapper Rows.deltaPlainRow.mainSum := by
  unfold Func.isWrapper
  first | (rw [if_pos (by decide +kernel)]; kernel_rfl) | (rw [if_neg (by decide +kernel)]; exact ⟨rfl, rfl⟩)
theorem overPlain : Rows.DeltaPlainSaid :=
  OpenClaim.holds_of_wide 7 Tryz.f7 rfl rfl rfl rfl rfl rfl rfl ⟨rfl, rfl, rfl, rfl, rfl⟩ rfl rfl rfl rfl rfl plainNamed Tryz.func7 plainJ
    plainInst plainWrap
    (fun os started H enc _ => liftedPlain os started H enc)
/-- The card. -/
theorem deltaPlain_holds : Rows.DeltaPlainCardSaid :=
  Claim7.holds_tied_plain_at .later [] [.data, .data, .data, .sentinel, .sentinel] true Rows.deltaPlainCard.stood.harness true overPlain (fun _ h => by cases h) (by kernel_rfl) (fun _ h => by cases h) deltaPlain_row_tie rfl ⟨rfl, rfl⟩ (by kernel_rfl) rfl
    (fun f fn hf hfn => by
      obtain rfl : f = 7 := Option.some.inj (plainNamed.symm.trans hf) |>.symm
      obtain rfl : fn = Tryz.f7 := (Option.some.inj (Tryz.func7.symm.trans hfn)).symm
      exact ⟨by kernel_rfl, fun j t ht => by
        rw [Tryz.params7] at ht
        have hm : t ∈ [25] := by simpa using Array.mem_of_getElem? ht
        have hall : ([25].all fun u => !Tryz.prog.wantsStandIn u) = true := by kernel_rfl
        exact (show Tryz.prog.wantsStandIn t = false by simpa using List.all_eq_true.1 hall t hm)⟩)
    (by kernel_rfl)
#print axioms deltaPlain_holds
end Go.Proofs.YtaepllhjnbencaaGreatDoor
