/- internal/bytealg.IndexByteString. -/
import Derived.Test.YtaepllhjnbencaaGreatDoorMuFn
import Derived.Test.YtaepllhjnbencaaGreatDoorMuPrims
import GoSem.Extern.BytealgIndexByte
set_option linter.unusedVariables false
set_option linter.unusedSimpArgs false
namespace Mu
open Go (Value World Addr Program IntKind Sem Result Obj TypeDesc TypeInfo Operand Oper Ending Calls Act Exit Code)

section
variable {P : Program} {ρ : Rho} {m : M} {w : World}

theorem Good.value {v : V} {x : Value} (hv : VR ρ v x) (hm : MR ρ m w) : Res ρ m w (.ok v m) (.returned x) w := ⟨ρ, hv, Good.refl hm⟩

theorem find_idx (c : UInt8) : ∀ (l : List UInt8) (i : Nat), (match (List.range' i l.length).find? fun k => decide (l[k - i]? = some c) with | some k => Int.ofNat k | none => -1) = idxOf c.toNat (l.map UInt8.toNat) i
  | [], i => rfl
  | x :: l, i => by
    simp only [List.length_cons, List.range'_succ, List.find?_cons, List.map_cons, idxOf, Nat.sub_self, List.getElem?_cons_zero, Option.some.injEq]
    by_cases h : x = c
    · subst h; simp
    · have hn : x.toNat ≠ c.toNat := fun e => h (UInt8.toNat_inj.1 e)
      have hb : Nat.beq x.toNat c.toNat = false := by
        cases hc : Nat.beq x.toNat c.toNat with
        | false => rfl
        | true => exact absurd (Nat.eq_of_beq_eq_true hc) hn
      simp only [h, decide_false, hb, cond_false]
      have ih := find_idx c l (i + 1)
      rw [← ih]
      have : ((List.range' (i + 1) l.length).find? fun k => decide ((x :: l)[k - i]? = some c)) = (List.range' (i + 1) l.length).find? fun k => decide (l[k - (i + 1)]? = some c) := by
        have hf : ∀ k ∈ List.range' (i + 1) l.length, decide ((x :: l)[k - i]? = some c) = decide (l[k - (i + 1)]? = some c) := fun k hk => by
          rw [List.mem_range'_1] at hk
          rw [show k - i = (k - (i + 1)) + 1 by omega, List.getElem?_cons_succ]
        generalize List.range' (i + 1) l.length = R at hf
        induction R with
        | nil => rfl
        | cons y R ih2 =>
          simp only [List.find?_cons]
          rw [hf y (List.mem_cons_self ..), ih2 fun k hk => hf k (List.mem_cons_of_mem _ hk)]
      rw [this]

theorem find_congr' {p q : Nat → Bool} : ∀ {l : List Nat}, (∀ k ∈ l, p k = q k) → l.find? p = l.find? q
  | [], _ => rfl
  | x :: r, h => by
    simp only [List.find?_cons]
    rw [h x (List.mem_cons_self ..), find_congr' fun k hk => h k (List.mem_cons_of_mem _ hk)]

theorem run_indexByte {bs : ByteArray} {c : Int} (h1 : c.toNat < 256) : (Go.Extern.BytealgIndexByte.indexByte #[.string bs, .int .u8 c]).run P w = .ok (.int .i64 (idxOf c.toNat (bs.data.toList.map UInt8.toNat) 0)) w := by
  have hf := find_idx c.toNat.toUInt8 bs.data.toList 0
  have hc : c.toNat.toUInt8.toNat = c.toNat := by
    show (UInt8.ofNat c.toNat).toNat = _
    rw [UInt8.toNat_ofNat']
    omega
  rw [hc] at hf
  have hsz : bs.data.toList.length = bs.size := Array.length_toList
  rw [hsz] at hf
  have hp : (List.range bs.size).find? (fun i => bs[i]! == c.toNat.toUInt8) = (List.range' 0 bs.size).find? fun k => decide (bs.data.toList[k - 0]? = some c.toNat.toUInt8) := by
    rw [List.range_eq_range']
    refine find_congr' fun k hk => ?_
    rw [List.mem_range'_1] at hk
    have hk : k < bs.size := by omega
    rw [Nat.sub_zero, Array.getElem?_toList]
    have h2 : bs[k]! = bs[k] := getElem!_pos bs k hk
    have h3 : bs.data[k]? = some bs[k] := by
      rw [Array.getElem?_eq_getElem (show k < bs.data.size from hk)]
      rfl
    rw [h2, h3]
    by_cases hd : bs[k] = c.toNat.toUInt8
    · rw [hd]; simp only [beq_self_eq_true, decide_true]
    · have hb : (bs[k] == c.toNat.toUInt8) = false := beq_eq_false_iff_ne.2 hd
      rw [hb]
      exact (decide_eq_false fun e => hd (Option.some.inj e)).symm
  have he : Go.Extern.BytealgIndexByte.indexByte #[.string bs, .int .u8 c] = (do
      let b ← Go.Extern.Bytes.bytesOf (.string bs)
      let c ← Go.Extern.Bytes.asByte (.int .u8 c)
      match (List.range b.size).find? fun i => b[i]! == c with
      | some i => pure (Go.goInt i)
      | none => pure (Go.goInt (-1))) := rfl
  rw [he]
  simp only [Go.Extern.Bytes.bytesOf, Go.Extern.Bytes.asByte, Sem.run_bind, Sem.run_pure, Result.andThen_ok]
  rw [hp]
  cases hr : (List.range' 0 bs.size).find? fun k => decide (bs.data.toList[k - 0]? = some c.toNat.toUInt8) with
  | none => rw [hr] at hf; simp only at hf ⊢; rw [← hf]; simp [Go.goInt]
  | some k => rw [hr] at hf; simp only at hf ⊢; rw [← hf]; simp [Go.goInt]

theorem indexByte_ok {f : Nat} (hf : ∀ (x y : Value) (w : World), (Go.callFunc f #[x, y]).run P w = (do pure (Go.Next.value (← Go.Extern.BytealgIndexByte.indexByte #[x, y])) : Sem Go.Next).run P w) (args : List V) (m : M) (hne : pIndexByte args m ≠ .bad)
    (ρ : Rho) (w : World) (xs : Array Value) (hv : VRL ρ args xs.toList) (hm : MR ρ m w) : FnRuns P f xs w (Res ρ m w (pIndexByte args m)) := by
  unfold pIndexByte at hne ⊢
  split at hne
  case h_2 => exact absurd rfl hne
  rename_i mm s c
  obtain ⟨x, l, h1, h2, h3⟩ := hv.cons_v
  obtain ⟨y, h4, h5⟩ := h3.one_v
  subst h4
  have hxs := arr_two h1
  subst hxs
  obtain ⟨bs, rfl, rfl⟩ := vr_str h2
  have := vr_int h5
  subst this
  cases hb : Nat.blt c.toNat 256 with
  | false => rw [hb] at hne; exact absurd rfl hne
  | true =>
    unfold FnRuns
    rw [hf]
    simp only [Sem.run_bind, run_indexByte (Nat.le_of_ble_eq_true hb), Result.andThen_ok, Sem.run_pure, cond_true]
    exact Good.value (by simp [VR]) hm
theorem same_ok {f : Nat} (hf : ∀ (x : Value) (w : World), (Go.callFunc f #[x]).run P w = .ok (.value x) w) (args : List V) (m : M) (hne : pSame args m ≠ .bad)
    (ρ : Rho) (w : World) (xs : Array Value) (hv : VRL ρ args xs.toList) (hm : MR ρ m w) : FnRuns P f xs w (Res ρ m w (pSame args m)) := by
  unfold pSame at hne ⊢
  split at hne
  case h_3 => exact absurd rfl hne
  all_goals
    obtain ⟨x, h1, h2⟩ := hv.one_v
    have hxs := arr_one h1
    subst hxs
    unfold FnRuns
    rw [hf]
    exact Good.value h2 hm
end

/-- a table out of a list -/
def ofL {α : Type} (l : List (Nat × α)) : T α := l.foldr (fun x t => t.set x.2 (key x.1)) .nil

theorem get_ofL {α : Type} {f : Nat} {x : α} : ∀ {l : List (Nat × α)}, (ofL l).get (key f) = some x → (f, x) ∈ l
  | [], h => by simp only [ofL, List.foldr_nil, T.get_nil] at h; cases h
  | (g, y) :: l, h => by
    simp only [ofL, List.foldr_cons] at h
    by_cases e : g = f
    · subst e
      rw [T.get_set_same] at h
      injection h with h
      subst h
      exact List.mem_cons_self ..
    · rw [T.get_set_ne _ _ _ _ (fun k => e (key_inj k))] at h
      exact List.mem_cons_of_mem _ (get_ofL h)
end Mu
