/- StoreNews: for every configuration the call returns true, and the configuration reads as before: the row and the tied card. No condition. -/
import Derived.Test.YtkceoangoobbkaaGreatDoorMuNews3b
import Derived.Test.YtkceoangoobbkaaGreatDoorTie
import Derived.Test.YtkceoangoobbkaaGreatDoorCards
import Derived.ProofKit
import Derived.OpenShut
import Derived.LaidMore
import Derived.Lay
import Derived.SevenTiedAt
import Derived.Stop.Joined
import Derived.Below
import Derived.Carry
namespace Go.Proofs.YtkceoangoobbkaaGreatDoor
open Go.ChangeShapes Go.WideShapes Go.ChangeAt Go.RowKit
open Go (Value World)
set_option linter.unusedVariables false
set_option maxRecDepth 100000

theorem sure_runs : Mu.isT (Mu.callF Ir.W 4000 8 [] ⟨.nil, 0⟩) = true := by decide +kernel
theorem okW1 : Mu.Ok Tryz.prog Ir.W1 Ir.names := by
  refine ⟨Ir.ok.mix, Ir.ok.ptrT, Ir.meth_ok _, ?_, Ir.ok.fns⟩
  intro f p hp
  by_cases h8 : f = 8
  · subst h8
    have : Ir.W1.prims 8 = some Mu.pTrue := by kernel_rfl
    rw [this] at hp
    injection hp with hp
    subst hp
    exact Mu.closed_ok Ir.ok sure_runs
  · have : Ir.W1.prims f = Ir.W.prims f := if_neg h8
    rw [this] at hp
    exact Ir.ok.prims f p hp
theorem below_of {w w' : World} {m m' : Mu.M} {ρ' : Mu.Rho} (g : Mu.Good (fun _ => none) m w ρ' m' w') : Below w.heap.size w w' :=
  ⟨g.os, g.tape, g.output, g.hsize, fun k hk => g.frame k hk (by rintro ⟨b, L, hb, _⟩; cases hb)⟩
/-- the call, in the model -/
theorem runs3 (w h t : Int) (v : Value) (hv : v = .agg #[.int .i64 w, .int .i64 h, .int .i64 t]) (W : World) : Go.Calls Tryz.prog 3 #[v] W fun e W' => e = .returned (.bool true) ∧ Below W.heap.size W W' := by
  have hm : Mu.MR (fun _ => none) ⟨.nil, 0⟩ W := ⟨fun _ _ h => (by cases h), fun _ _ h => (by cases h), fun _ _ _ _ h => (by cases h), fun _ _ h => (by cases h)⟩
  obtain ⟨m', hr, _⟩ := Ir.n3 (w := w) (h := h) (t := t) 0 ⟨.nil, 0⟩
  have hvr : Mu.VRL (fun _ => none) [Mu.V.agg (Ir.c3 w h t)] (#[v] : Array Value).toList := by
    subst hv
    simp only [Mu.VRL, Mu.VR]
    refine ⟨_, [], rfl, ⟨_, rfl, ?_⟩, rfl⟩
    simp only [Mu.VRC, Mu.VR]
    exact ⟨_, _, rfl, rfl, rfl, _, _, rfl, rfl, rfl, _, _, rfl, rfl, rfl, rfl⟩
  have hc := Mu.callF_ok okW1 8 3 [.agg (Ir.c3 w h t)] ⟨.nil, 0⟩ (by rw [hr]; intro h; cases h) (fun _ => none) W #[v] hvr hm
  rw [hr] at hc
  unfold Mu.FnRuns at hc
  rw [Tryz.call3] at hc
  refine Go.Calls.mono hc ?_
  intro en W' he
  cases en with
  | returned x =>
    obtain ⟨ρ', h1, g⟩ := he
    simp only [Mu.VR] at h1
    subst h1
    exact ⟨rfl, below_of g⟩
  | _ => exact he.elim
theorem own : ownKnob Tryz.prog.godebug = none := by kernel_rfl
theorem laidOut : laidOutB Tryz.prog = true := by kernel_rfl

theorem cfg_open {H : Type} {enc : TypeId × Value → H} {W : World} {base : Nat} {held : Bool} {spare : Nat → Bool} {v : Value} {d : DataW H} {p : List MemPlace} (hok : Value.okWide Tryz.prog W .any base 23 v) (hd : DataW.Trod enc Tryz.prog W 0 spare held 23 v d p) :
    ∃ w h t : Int, v = .agg #[.int .i64 w, .int .i64 h, .int .i64 t] := by
  obtain ⟨cs, rfl, hs⟩ := okWide_struct Tryz.underlying23 hok
  obtain ⟨fuel, hf⟩ := hd
  obtain ⟨xs, n, _, _, hl, hx, hfs⟩ := DataW.trod_struct Tryz.underlying23 hf
  have c3' : Tryz.prog.cellsOf 3 = 1 := by kernel_rfl
  have c23 : Tryz.prog.cellsOf 23 = 3 := by kernel_rfl
  rw [c23] at hs
  have hlen : cs.toList.length = 3 := by simpa using hs
  have u3 : Tryz.prog.underlying 3 = some (.int .i64) := by kernel_rfl
  have f0 : DataW.trod enc Tryz.prog W 0 spare held n 3 (((Value.agg cs).cells.toList.drop 0).take (Tryz.prog.cellsOf 3)) = xs[0]? := hfs 0 _ rfl
  have f1 : DataW.trod enc Tryz.prog W 0 spare held n 3 (((Value.agg cs).cells.toList.drop 1).take (Tryz.prog.cellsOf 3)) = xs[1]? := hfs 1 _ rfl
  have f2 : DataW.trod enc Tryz.prog W 0 spare held n 3 (((Value.agg cs).cells.toList.drop 2).take (Tryz.prog.cellsOf 3)) = xs[2]? := hfs 2 _ rfl
  rw [c3'] at f0 f1 f2
  have hx3 : xs.length = 3 := hx
  rw [List.getElem?_eq_getElem (by omega)] at f0 f1 f2
  obtain ⟨a, e0, _⟩ := DataW.trod_int u3 f0
  obtain ⟨b, e1, _⟩ := DataW.trod_int u3 f1
  obtain ⟨c, e2, _⟩ := DataW.trod_int u3 f2
  refine ⟨a, b, c, ?_⟩
  have : cs.toList = [.int .i64 a, .int .i64 b, .int .i64 c] := by
    simp only [Value.cells] at e0 e1 e2
    match hcs : cs.toList, hlen with
    | [x, y, z], _ =>
      rw [hcs] at e0 e1 e2
      simp at e0 e1 e2
      subst e0 e1 e2
      rfl
  rw [← Array.toArray_toList (xs := cs), this]

theorem lifted (os : Os) (started : os.Started) (H : Type) (enc : TypeId × Value → H) :
    ReturnsInHanded {} Tryz.checked os 3 .any (fun w args => (Rows.storeNewsSpec.pre enc Tryz.prog Tryz.f3 Rows.storeNewsRow.domain false w args ∧ laidMetH Tryz.prog Rows.storeNewsRow.laid w) ∧ sizedMet enc Tryz.prog Tryz.f3 (OpenSpec.ofChange Rows.storeNewsSpec) false w args)
      (Rows.storeNewsSpec.post enc Tryz.prog Tryz.f3 false true false false) := by
  refine returnsInHanded_of_change_and (C := Tryz.checked) (X := fun w _ => laidMetH Tryz.prog Rows.storeNewsRow.laid w) (fun _ _ _ hh h => h.of_heap hh) own started (by kernel_rfl) Tryz.func3
    (ChangeSpec.witness_shaped (enc := enc) (C := Tryz.checked) (os := os) (X := fun w _ => laidMetH Tryz.prog Rows.storeNewsRow.laid w) false (World.laidAll Tryz.prog os Rows.storeNewsRow.laid) #[.agg #[.int .i64 0, .int .i64 0, .int .i64 0]] 8 (World.laidAll_os _ _ _)
      (World.shaped_of_ZipB (by kernel_rfl) (by kernel_rfl)) (by kernel_rfl) (by kernel_rfl) (by kernel_rfl)
      (by rw [MakeChecks.laidMetH_plain _ _ _ (by kernel_rfl)]; exact laidMet_laidAll _ (by kernel_rfl) (by kernel_rfl))) ?_
  intro W base args ds gs before hval0 hW hc _ hL _
  have hval : ∀ (j : Nat) t v, Tryz.f3.params[j]? = some t → args[j]? = some v → Value.okWide Tryz.prog W .any base t v := hval0
  have hW' := hW
  obtain ⟨p, q, hA0, hV, rfl, _, _⟩ := hW
  have hA : DataW.TrodAll enc Tryz.prog W 0 (fun _ => true) true Tryz.f3.params.toList args.toList ds p := hA0
  rw [Tryz.params3] at hA hval
  obtain ⟨v0, d0, rfl, rfl, h0⟩ := trodAll_one hA
  obtain ⟨rfl, rfl⟩ := trodVars_none hV
  obtain ⟨w, h, t, hv⟩ := cfg_open (hval 0 23 v0 rfl rfl) h0
  have k0 := h0
  have lt0 : ∀ x ∈ p, x.block < W.heap.size := by obtain ⟨m, hm⟩ := k0; exact DataW.trod_lt m _ _ _ hm
  refine (runs3 w h t v0 hv W).mono fun e W' ⟨he, bel⟩ => ?_
  subst he
  exact ⟨_, rfl, _, _, _, [], _, [], hW', trodAll_mk1 (shut_bool Tryz.underlying4 _), trodAll_mk1 (Below.trod laidOut (by kernel_rfl) (of_decide_eq_true (by kernel_rfl)) k0 bel lt0), rfl, bel.frame _, fun h => by cases h⟩
theorem over : Rows.StoreNewsSaid :=
  OpenClaim.holds_of_wide 3 Tryz.f3 rfl rfl rfl rfl rfl rfl rfl ⟨rfl, rfl, rfl, rfl, rfl⟩ rfl rfl rfl rfl rfl (by kernel_rfl) Tryz.func3 (by kernel_rfl)
    (of_decide_eq_true (by kernel_rfl)) (by unfold Func.isWrapper; first | (rw [if_pos (by decide +kernel)]; kernel_rfl) | (rw [if_neg (by decide +kernel)]; exact ⟨rfl, rfl⟩))
    (fun os started H enc _ => lifted os started H enc)
/-- The card. -/
theorem storeNews_holds : Rows.StoreNewsCardSaid :=
  Claim7.holds_tied_plain_at .later [] [.data, .data, .data] true (true, "82557aa896a3b783ce06db86afedcbce04516eb0b0bea7f25277bea0b2542b3b") true over (fun _ h => by cases h) (by kernel_rfl) (fun _ h => by cases h) storeNews_row_tie rfl ⟨rfl, rfl⟩ (by kernel_rfl) rfl
    (fun f fn hf hfn => by
      obtain rfl : f = 3 := Option.some.inj ((show Tryz.prog.funcNamed "mullion/mullionlaw07.StoreNews" = some 3 by kernel_rfl).symm.trans hf) |>.symm
      obtain rfl : fn = Tryz.f3 := (Option.some.inj (Tryz.func3.symm.trans hfn)).symm
      exact ⟨by kernel_rfl, fun j t ht => by
        rw [Tryz.params3] at ht
        have hm : t ∈ [23] := by simpa using Array.mem_of_getElem? ht
        have hall : ([23].all fun u => !Tryz.prog.wantsStandIn u) = true := by kernel_rfl
        exact (show Tryz.prog.wantsStandIn t = false by simpa using List.all_eq_true.1 hall t hm)⟩)
    (by kernel_rfl)
#print axioms storeNews_holds
end Go.Proofs.YtkceoangoobbkaaGreatDoor
