/- The small code of this program is sound: printed by a program of this session (mkseat.py). -/
import Derived.Test.YtkceoangoobbkaaGreatDoorMuFacts
import Derived.Test.YtkceoangoobbkaaGreatDoorMuLib
import Derived.Test.YtkceoangoobbkaaGreatDoorMuSort
import Derived.Test.YtkceoangoobbkaaGreatDoorMuLays
set_option maxRecDepth 100000
set_option linter.unusedVariables false
namespace Go.Proofs.YtkceoangoobbkaaGreatDoor.Ir
open Mu
open Go (Value World Addr Program)
theorem sortNil : FnFact Tryz.prog names 25 F25 := fact25
def Wn : Prg := ⟨fns, fun _ => none, meth, fun _ => false⟩
theorem fns_eq : fns = ofL fnsL := by kernel_rfl
theorem facts : ∀ x ∈ fnsL, FnFact Tryz.prog names x.1 x.2 := List.forall_mem_cons.2 ⟨fact3, List.forall_mem_cons.2 ⟨fact4, List.forall_mem_cons.2 ⟨fact5, List.forall_mem_cons.2 ⟨fact6, List.forall_mem_cons.2 ⟨fact7, List.forall_mem_cons.2 ⟨fact8, List.forall_mem_cons.2 ⟨fact9, List.forall_mem_cons.2 ⟨fact10, List.forall_mem_cons.2 ⟨fact11, List.forall_mem_cons.2 ⟨fact12, List.forall_mem_cons.2 ⟨fact14, List.forall_mem_cons.2 ⟨fact16, List.forall_mem_cons.2 ⟨fact17, List.forall_mem_cons.2 ⟨fact18, List.forall_mem_cons.2 ⟨fact19, List.forall_mem_cons.2 ⟨fact20, List.forall_mem_cons.2 ⟨fact21, List.forall_mem_cons.2 ⟨fact22, List.forall_mem_cons.2 ⟨fact23, List.forall_mem_cons.2 ⟨fact24, List.forall_mem_cons.2 ⟨fact25, List.forall_mem_cons.2 ⟨fact26, List.forall_mem_cons.2 ⟨fact27, List.forall_mem_cons.2 ⟨fact28, List.forall_mem_cons.2 ⟨fact29, List.forall_mem_cons.2 ⟨fact30, List.forall_mem_cons.2 ⟨fact31, List.forall_mem_cons.2 ⟨fact32, List.forall_mem_cons.2 ⟨fact33, List.forall_mem_cons.2 ⟨fact34, List.forall_mem_cons.2 ⟨fact35, List.forall_mem_cons.2 ⟨fact36, List.forall_mem_cons.2 ⟨fact37, List.forall_mem_cons.2 ⟨fact38, List.forall_mem_cons.2 ⟨fact39, List.forall_mem_cons.2 ⟨fact40, List.forall_mem_cons.2 ⟨fact41, List.forall_mem_cons.2 ⟨fact42, List.forall_mem_cons.2 ⟨fact43, List.forall_mem_cons.2 ⟨fact44, List.forall_mem_cons.2 ⟨fact45, List.forall_mem_cons.2 ⟨fact46, List.forall_mem_cons.2 ⟨fact47, List.forall_mem_cons.2 ⟨fact48, List.forall_mem_cons.2 ⟨fact49, List.forall_mem_cons.2 ⟨fact50, List.forall_mem_cons.2 ⟨fact51, List.forall_mem_cons.2 ⟨fact52, List.forall_mem_cons.2 ⟨fact53, List.forall_mem_cons.2 ⟨fact54, List.forall_mem_cons.2 ⟨fact55, List.forall_mem_cons.2 ⟨fact56, List.forall_mem_cons.2 ⟨fact57, List.forall_mem_cons.2 ⟨fact58, List.forall_mem_cons.2 ⟨fact60, List.forall_mem_cons.2 ⟨fact61, List.forall_mem_cons.2 ⟨fact62, List.forall_mem_cons.2 ⟨fact63, List.forall_mem_cons.2 ⟨fact64, List.forall_mem_cons.2 ⟨fact65, List.forall_mem_cons.2 ⟨fact66, List.forall_mem_cons.2 ⟨fact67, List.forall_mem_cons.2 ⟨fact68, List.forall_mem_cons.2 ⟨fact69, List.forall_mem_cons.2 ⟨fact70, List.forall_mem_cons.2 ⟨fact71, List.forall_mem_cons.2 ⟨fact72, List.forall_mem_cons.2 ⟨fact73, List.forall_mem_cons.2 ⟨fact74, List.forall_mem_cons.2 ⟨fact75, List.forall_mem_cons.2 ⟨fact80, List.forall_mem_cons.2 ⟨fact81, List.forall_mem_cons.2 ⟨fact82, List.forall_mem_cons.2 ⟨fact83, List.forall_mem_cons.2 ⟨fact84, List.forall_mem_cons.2 ⟨fact85, List.forall_mem_cons.2 ⟨fact86, List.forall_mem_cons.2 ⟨fact87, List.forall_mem_cons.2 ⟨fact88, List.forall_mem_cons.2 ⟨fact89, List.forall_mem_cons.2 ⟨fact90, List.forall_mem_cons.2 ⟨fact91, List.forall_mem_cons.2 ⟨fact92, List.forall_mem_cons.2 ⟨fact93, List.forall_mem_cons.2 ⟨fact95, List.forall_mem_cons.2 ⟨fact96, List.forall_mem_cons.2 ⟨fact98, List.forall_mem_cons.2 ⟨fact99, List.forall_mem_cons.2 ⟨fact100, List.forall_mem_cons.2 ⟨fact101, List.forall_mem_cons.2 ⟨fact102, List.forall_mem_cons.2 ⟨fact103, List.forall_mem_cons.2 ⟨fact110, List.forall_mem_cons.2 ⟨fact142, fun _ h => (by cases h)⟩⟩⟩⟩⟩⟩⟩⟩⟩⟩⟩⟩⟩⟩⟩⟩⟩⟩⟩⟩⟩⟩⟩⟩⟩⟩⟩⟩⟩⟩⟩⟩⟩⟩⟩⟩⟩⟩⟩⟩⟩⟩⟩⟩⟩⟩⟩⟩⟩⟩⟩⟩⟩⟩⟩⟩⟩⟩⟩⟩⟩⟩⟩⟩⟩⟩⟩⟩⟩⟩⟩⟩⟩⟩⟩⟩⟩⟩⟩⟩⟩⟩⟩⟩⟩⟩⟩⟩⟩⟩⟩⟩⟩⟩
theorem meth_ok (prims : Nat → Option (List V → M → R)) : MethOk Tryz.prog ⟨fns, prims, meth, fun _ => false⟩ names := by
  intro t i f off h
  simp only [meth] at h
  split at h
  all_goals first
    | (cases h; done)
    | (injection h with h; injection h with h1 h2; subst h1 h2; exact ⟨_, rfl, fun w ad => by kernel_rfl⟩)
theorem okn : Ok Tryz.prog Wn names := ⟨by kernel_rfl, fun t h => (by cases h), meth_ok _, fun f p h => (by cases h), fun f fn h => facts (f, fn) (get_ofL (fns_eq ▸ h))⟩
theorem sort_nil (w : World) : Go.Calls Tryz.prog 25 #[.slice none 0 0] w fun en w' => en = .returned (.tuple #[]) ∧ Still w w' w.heap.size := by
  have hm : MR (fun _ => none) ⟨.nil, 0⟩ w := ⟨fun _ _ h => (by cases h), fun _ _ h => (by cases h), fun _ _ _ _ h => (by cases h), fun _ _ h => (by cases h)⟩
  have hr : callF Wn 60 25 [.snil] ⟨.nil, 0⟩ = .ok (.tup []) ⟨.nil, 0⟩ := by kernel_rfl
  have h := callF_ok okn 60 25 [.snil] ⟨.nil, 0⟩ (by rw [hr]; intro h; cases h) (fun _ => none) w #[.slice none 0 0] (by simp [VRL, VR]) hm
  rw [hr] at h
  unfold FnRuns at h
  rw [Tryz.call25] at h
  refine Go.Calls.mono h ?_
  intro en w' he
  cases en with
  | returned x =>
    obtain ⟨ρ', h1, h2⟩ := he
    simp only [VR, VRL] at h1
    obtain ⟨vs, rfl, h3⟩ := h1
    have : vs = #[] := by cases vs; simp at h3; simp [h3]
    subst this
    refine ⟨rfl, ⟨h2.os, h2.tape, h2.output, h2.hsize, fun r hr => h2.frame r hr ?_⟩⟩
    rintro ⟨b, L, hb, _⟩
    cases hb
  | _ => exact he.elim
theorem sortOk : SortOk Tryz.prog 25 := ⟨sort_some (fun blk off cap zs w h1 h2 h3 => Go.Proofs.Any.sort_Ints Tryz.lays191 blk off cap zs w h1 h2 h3), sort_nil, Tryz.call25⟩
noncomputable def i13a0 : Go.Oper := operAt Tryz.f13 0 0
noncomputable def i13a1 : Go.Oper := operAt Tryz.f13 1 0
noncomputable def i13b0 : Go.Oper := operAt Tryz.f13 2 0
noncomputable def i13b1 : Go.Oper := operAt Tryz.f13 2 1
noncomputable def i13b2 : Go.Oper := operAt Tryz.f13 2 2
noncomputable def i13b3 : Go.Oper := operAt Tryz.f13 2 3
noncomputable def i13b4 : Go.Oper := operAt Tryz.f13 2 4
noncomputable def i13c0 : Go.Oper := operAt Tryz.f13 3 0
noncomputable def i13c1 : Go.Oper := operAt Tryz.f13 3 1
noncomputable def i13d0 : Go.Oper := operAt Tryz.f13 4 0
noncomputable def i13d1 : Go.Oper := operAt Tryz.f13 4 1
noncomputable def i13d2 : Go.Oper := operAt Tryz.f13 4 2
noncomputable def i13e0 : Go.Oper := operAt Tryz.f13 5 0
noncomputable def i13e1 : Go.Oper := operAt Tryz.f13 5 1
noncomputable def i13e2 : Go.Oper := operAt Tryz.f13 5 2
noncomputable def i13e3 : Go.Oper := operAt Tryz.f13 5 3
noncomputable def i13e4 : Go.Oper := operAt Tryz.f13 5 4
noncomputable def i13g0 : Go.Oper := operAt Tryz.f13 6 0
noncomputable def i13g1 : Go.Oper := operAt Tryz.f13 6 1
noncomputable def i13h0 : Go.Oper := operAt Tryz.f13 7 0
noncomputable def i13h1 : Go.Oper := operAt Tryz.f13 7 1
noncomputable def ids13 : IdsFn Tryz.prog 13 25 3 := {
  F := Tryz.f13,
  a0 := i13a0,
  a1 := i13a1,
  b0 := i13b0,
  b1 := i13b1,
  b2 := i13b2,
  b3 := i13b3,
  b4 := i13b4,
  c0 := i13c0,
  c1 := i13c1,
  d0 := i13d0,
  d1 := i13d1,
  d2 := i13d2,
  e0 := i13e0,
  e1 := i13e1,
  e2 := i13e2,
  e3 := i13e3,
  e4 := i13e4,
  g0 := i13g0,
  g1 := i13g1,
  h0 := i13h0,
  h1 := i13h1,
  i0 := 0,
  i1 := 1,
  i2 := 2,
  i3 := 3,
  i4 := 4,
  i5 := 5,
  i6 := 6,
  i7 := 7,
  k0 := 0,
  k1 := 1,
  tS := 94,
  tM := 92,
  tK := 3,
  tE := 68,
  kc := callAt i13g1,
  z := [(.int .i64 (.ofNat 0))],
  func := Tryz.func13,
  call := Tryz.call13,
  body := (by kernel_rfl),
  ntmps := rfl,
  results := (by kernel_rfl),
  kne := (by decide),
  guards := (by intro o h; simp only [List.mem_cons, List.not_mem_nil, or_false] at h; rcases h with rfl | rfl | rfl | rfl | rfl | rfl | rfl | rfl | rfl | rfl | rfl | rfl | rfl | rfl | rfl | rfl | rfl | rfl | rfl | rfl | rfl <;> kernel_rfl),
  A0 := ⟨by kernel_rfl, by kernel_rfl⟩,
  A1 := ⟨by kernel_rfl, by kernel_rfl⟩,
  B0 := ⟨by kernel_rfl, by kernel_rfl⟩,
  B1 := ⟨by kernel_rfl, by kernel_rfl⟩,
  B2 := ⟨by kernel_rfl, by kernel_rfl⟩,
  B3 := ⟨by kernel_rfl, by kernel_rfl⟩,
  B4 := ⟨by kernel_rfl, by kernel_rfl⟩,
  C0 := ⟨by kernel_rfl, by kernel_rfl⟩,
  C1 := ⟨by kernel_rfl, by kernel_rfl⟩,
  D0 := ⟨by kernel_rfl, by kernel_rfl⟩,
  D1 := ⟨by kernel_rfl, by kernel_rfl⟩,
  D2 := ⟨by kernel_rfl, by kernel_rfl⟩,
  E0 := ⟨by kernel_rfl, by kernel_rfl⟩,
  E1 := ⟨by kernel_rfl, by kernel_rfl⟩,
  E2 := ⟨by kernel_rfl, by kernel_rfl⟩,
  E3 := ⟨by kernel_rfl, by kernel_rfl⟩,
  E4 := ⟨by kernel_rfl, by kernel_rfl⟩,
  G0 := ⟨by kernel_rfl, by kernel_rfl⟩,
  G1 := ⟨by kernel_rfl, by kernel_rfl⟩,
  G1c := ⟨by kernel_rfl, by kernel_rfl⟩,
  H0 := ⟨by kernel_rfl, by kernel_rfl⟩,
  H1 := ⟨by kernel_rfl, by kernel_rfl⟩,
  B2k := (by kernel_rfl),
  B3k := (by kernel_rfl),
  E2k := (by kernel_rfl),
  E3k := (by kernel_rfl),
  B4m := Tryz.underlying92,
  Z := rfl }
noncomputable def i15a0 : Go.Oper := operAt Tryz.f15 0 0
noncomputable def i15a1 : Go.Oper := operAt Tryz.f15 1 0
noncomputable def i15b0 : Go.Oper := operAt Tryz.f15 2 0
noncomputable def i15b1 : Go.Oper := operAt Tryz.f15 2 1
noncomputable def i15b2 : Go.Oper := operAt Tryz.f15 2 2
noncomputable def i15b3 : Go.Oper := operAt Tryz.f15 2 3
noncomputable def i15b4 : Go.Oper := operAt Tryz.f15 2 4
noncomputable def i15c0 : Go.Oper := operAt Tryz.f15 3 0
noncomputable def i15c1 : Go.Oper := operAt Tryz.f15 3 1
noncomputable def i15d0 : Go.Oper := operAt Tryz.f15 4 0
noncomputable def i15d1 : Go.Oper := operAt Tryz.f15 4 1
noncomputable def i15d2 : Go.Oper := operAt Tryz.f15 4 2
noncomputable def i15e0 : Go.Oper := operAt Tryz.f15 5 0
noncomputable def i15e1 : Go.Oper := operAt Tryz.f15 5 1
noncomputable def i15e2 : Go.Oper := operAt Tryz.f15 5 2
noncomputable def i15e3 : Go.Oper := operAt Tryz.f15 5 3
noncomputable def i15e4 : Go.Oper := operAt Tryz.f15 5 4
noncomputable def i15g0 : Go.Oper := operAt Tryz.f15 6 0
noncomputable def i15g1 : Go.Oper := operAt Tryz.f15 6 1
noncomputable def i15h0 : Go.Oper := operAt Tryz.f15 7 0
noncomputable def i15h1 : Go.Oper := operAt Tryz.f15 7 1
noncomputable def ids15 : IdsFn Tryz.prog 15 25 3 := {
  F := Tryz.f15,
  a0 := i15a0,
  a1 := i15a1,
  b0 := i15b0,
  b1 := i15b1,
  b2 := i15b2,
  b3 := i15b3,
  b4 := i15b4,
  c0 := i15c0,
  c1 := i15c1,
  d0 := i15d0,
  d1 := i15d1,
  d2 := i15d2,
  e0 := i15e0,
  e1 := i15e1,
  e2 := i15e2,
  e3 := i15e3,
  e4 := i15e4,
  g0 := i15g0,
  g1 := i15g1,
  h0 := i15h0,
  h1 := i15h1,
  i0 := 0,
  i1 := 1,
  i2 := 2,
  i3 := 3,
  i4 := 4,
  i5 := 5,
  i6 := 6,
  i7 := 7,
  k0 := 0,
  k1 := 1,
  tS := 98,
  tM := 96,
  tK := 3,
  tE := 72,
  kc := callAt i15g1,
  z := [(.int .i64 (.ofNat 0))],
  func := Tryz.func15,
  call := Tryz.call15,
  body := (by kernel_rfl),
  ntmps := rfl,
  results := (by kernel_rfl),
  kne := (by decide),
  guards := (by intro o h; simp only [List.mem_cons, List.not_mem_nil, or_false] at h; rcases h with rfl | rfl | rfl | rfl | rfl | rfl | rfl | rfl | rfl | rfl | rfl | rfl | rfl | rfl | rfl | rfl | rfl | rfl | rfl | rfl | rfl <;> kernel_rfl),
  A0 := ⟨by kernel_rfl, by kernel_rfl⟩,
  A1 := ⟨by kernel_rfl, by kernel_rfl⟩,
  B0 := ⟨by kernel_rfl, by kernel_rfl⟩,
  B1 := ⟨by kernel_rfl, by kernel_rfl⟩,
  B2 := ⟨by kernel_rfl, by kernel_rfl⟩,
  B3 := ⟨by kernel_rfl, by kernel_rfl⟩,
  B4 := ⟨by kernel_rfl, by kernel_rfl⟩,
  C0 := ⟨by kernel_rfl, by kernel_rfl⟩,
  C1 := ⟨by kernel_rfl, by kernel_rfl⟩,
  D0 := ⟨by kernel_rfl, by kernel_rfl⟩,
  D1 := ⟨by kernel_rfl, by kernel_rfl⟩,
  D2 := ⟨by kernel_rfl, by kernel_rfl⟩,
  E0 := ⟨by kernel_rfl, by kernel_rfl⟩,
  E1 := ⟨by kernel_rfl, by kernel_rfl⟩,
  E2 := ⟨by kernel_rfl, by kernel_rfl⟩,
  E3 := ⟨by kernel_rfl, by kernel_rfl⟩,
  E4 := ⟨by kernel_rfl, by kernel_rfl⟩,
  G0 := ⟨by kernel_rfl, by kernel_rfl⟩,
  G1 := ⟨by kernel_rfl, by kernel_rfl⟩,
  G1c := ⟨by kernel_rfl, by kernel_rfl⟩,
  H0 := ⟨by kernel_rfl, by kernel_rfl⟩,
  H1 := ⟨by kernel_rfl, by kernel_rfl⟩,
  B2k := (by kernel_rfl),
  B3k := (by kernel_rfl),
  E2k := (by kernel_rfl),
  E3k := (by kernel_rfl),
  B4m := Tryz.underlying96,
  Z := rfl }
def PrimFact (x : Nat × (List V → M → R)) : Prop := ∀ (args : List V) (m : M), x.2 args m ≠ .bad → ∀ (ρ : Rho) (w : World) (xs : Array Value), VRL ρ args xs.toList → MR ρ m w → FnRuns Tryz.prog x.1 xs w (Res ρ m w (x.2 args m))
theorem prims_eq : prims = ofL primsL := by kernel_rfl
theorem primFacts : ∀ x ∈ primsL, PrimFact x := List.forall_mem_cons.2 ⟨fun args m hne ρ w xs hv hm => ids_sound ids13 sortOk args m hne ρ w xs hv hm, List.forall_mem_cons.2 ⟨fun args m hne ρ w xs hv hm => ids_sound ids15 sortOk args m hne ρ w xs hv hm, List.forall_mem_cons.2 ⟨fun args m hne ρ w xs hv hm => indexByte_ok (fun x y w => by kernel_rfl) args m hne ρ w xs hv hm, fun _ h => (by cases h)⟩⟩⟩
theorem ok : Ok Tryz.prog W names := ⟨by kernel_rfl, fun t h => (by cases h), meth_ok _, fun f p h => primFacts (f, p) (get_ofL (prims_eq ▸ h)), fun f fn h => facts (f, fn) (get_ofL (fns_eq ▸ h))⟩
end Go.Proofs.YtkceoangoobbkaaGreatDoor.Ir
