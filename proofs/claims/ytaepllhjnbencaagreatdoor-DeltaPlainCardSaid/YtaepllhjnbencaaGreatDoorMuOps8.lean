/- Each operation of the small code that is no call does what the model's does: all together. -/
import Derived.Test.YtaepllhjnbencaaGreatDoorMuUns
set_option linter.unusedVariables false
set_option linter.unusedSimpArgs false
namespace Mu
open Go (Value World Addr Program IntKind Sem Result Obj TypeDesc TypeInfo Operand Oper)

def Kind.isCall : Kind → Bool
  | .call | .invoke _ => true
  | _ => false

section
variable {P : Program} {names : List String} {o : Oper} {a : Go.Act} {ρ : Rho} {m : M} {w : World} (W : Prg) (call : Nat → List V → M → R)

theorem bi_sound {c : Go.Call} {b : Go.Builtin} {k : Kind} (ho : o.op = .call c) (hb : c.callee = .builtin b) (hk : trK P names o.op = some k) {vs : List V}
    (hvs : VRL ρ vs (o.op.operands.toList.map a.eval)) (hm : MR ρ m w) : Done P o a ρ m w (evK W call m k vs) := by
  rw [ho] at hk
  simp only [trK, hb] at hk
  split at hk
  · -- len
    rename_i t ht
    split at hk
    · injection hk with hk; subst hk; exact done_lenS W call ‹_› ho hb ht hvs hm
    · injection hk with hk; subst hk; exact done_lenL W call ‹_› ho hb ht hvs hm
    · injection hk with hk; subst hk; exact done_lenM W call ‹_› ho hb ht hvs hm
    · cases hk
  · rename_i t ht
    split at hk
    · injection hk with hk; subst hk; exact done_cap W call ‹_› ho hb ht hvs hm
    · cases hk
  · rename_i t u ht
    split at hk
    · rename_i e e' hd hu
      split at hk
      · rename_i n z hn hz
        split at hk
        · rename_i hc
          simp only [Option.bind_eq_some_iff] at hk
          obtain ⟨by_, hf, hk⟩ := hk
          split at hk
          · rename_i hby
            injection hk with hk; subst hk
            exact done_append W call hd (.inl ⟨_, hu⟩) hn hc.1 hz hc.2 hf hby ho hb ht hvs hm
          · cases hk
        · cases hk
      · cases hk
    · rename_i e hd hu
      split at hk
      · rename_i n z hn hz
        split at hk
        · rename_i hc
          simp only [Option.bind_eq_some_iff] at hk
          obtain ⟨by_, hf, hk⟩ := hk
          split at hk
          · rename_i hby
            injection hk with hk; subst hk
            exact done_append W call hd (.inr hu) hn hc.1 hz hc.2 hf hby ho hb ht hvs hm
          · cases hk
        · cases hk
      · cases hk
    · cases hk
  · rename_i t u ht
    split at hk
    · rename_i e hd
      split at hk
      · rename_i n hn
        split at hk
        · rename_i hc
          injection hk with hk; subst hk
          exact done_copy W call hd hn hc ho hb ht hvs hm
        · cases hk
      · cases hk
    · cases hk
  · rename_i t ht
    split at hk
    · rename_i e hd
      split at hk
      · rename_i n z hn hz
        split at hk
        · rename_i hc
          injection hk with hk; subst hk
          exact done_clear W call hd hn hc.1 hz hc.2 ho hb ht hvs hm
        · cases hk
      · cases hk
    · cases hk
  · rename_i t u ht
    split at hk
    · rename_i kt e hd
      cases hkt : keyT P kt with
      | none => simp [hkt] at hk
      | some sk =>
        simp only [hkt, Option.map_some, Option.some.injEq] at hk; subst hk
        exact done_delete W call hd hkt ho hb ht hvs hm
    · cases hk
  · injection hk with hk; subst hk; exact done_sliceData W call ho hb hvs hm
  · rename_i t u2 ht
    split at hk
    · rename_i u hd
      split at hk
      · rename_i hc
        injection hk with hk; subst hk
        exact done_unsStr W call hd hc.1 hc.2 ho hb ht hvs hm
      · cases hk
    · cases hk
  · injection hk with hk; subst hk; exact done_min W call ho hb hvs hm
  · injection hk with hk; subst hk; exact done_max W call ho hb hvs hm
  · cases hk

theorem evK_sound (hW : PtrTOk P W) {k : Kind} (hk : trK P names o.op = some k) (hnc : k.isCall = false) {vs : List V}
    (hvs : VRL ρ vs (o.op.operands.toList.map a.eval)) (hm : MR ρ m w) : Done P o a ρ m w (evK W call m k vs) := by
  have hk0 := hk
  unfold trK at hk
  split at hk
  · rename_i x ho; injection hk with hk; subst hk; exact done_move W call x (.inl ho) hvs hm
  · rename_i x ho; injection hk with hk; subst hk; exact done_move W call x (.inr ho) hvs hm
  · rename_i ho; injection hk with hk; subst hk; exact done_pick W call _ _ _ ho hvs hm
  · rename_i t ho
    simp only [Option.map_eq_some_iff] at hk
    obtain ⟨z, hz, rfl⟩ := hk
    exact done_alloc W call t hz ho hvs hm
  · rename_i t x ho
    simp only [Option.map_eq_some_iff] at hk
    obtain ⟨z, hz, rfl⟩ := hk
    exact done_box W call t _ x ho hvs hm
  · rename_i t parts ho
    split at hk
    · rename_i fs z hd hz
      split at hk
      · rename_i hf
        simp only [Option.map_eq_some_iff] at hk
        obtain ⟨ps, hp, rfl⟩ := hk
        exact done_build_struct W call t parts hd hf hz hp ho hvs hm
      · cases hk
    · rename_i len e z hd hz
      simp only [Option.map_eq_some_iff] at hk
      obtain ⟨n, hn, rfl⟩ := hk
      exact done_build_array W call t parts hd hn hz ho hvs hm
    · cases hk
  · rename_i t len parts ho
    split at hk
    · rename_i e hd
      split at hk
      · rename_i n z hn hz
        split at hk
        · rename_i hc
          injection hk with hk; subst hk
          exact done_buildSlice W call t len parts hd hn hc.1 hz hc.2.1 hc.2.2 ho hvs hm
        · cases hk
      · cases hk
    · cases hk
  · rename_i t x ho
    split at hk
    · rename_i g n hg hn
      injection hk with hk; subst hk
      exact done_load W call t x hg hn ho hvs hm
    · cases hk
  · rename_i t x y ho
    simp only [Option.map_eq_some_iff] at hk
    obtain ⟨n, hn, rfl⟩ := hk
    exact done_store W call t x y hn ho hvs hm
  · rename_i x ho; injection hk with hk; subst hk; exact done_nilCheck W call x ho hvs hm
  · rename_i op t x y yt ho
    split at hk
    · simp only [Option.map_eq_some_iff] at hk
      obtain ⟨d, hd, rfl⟩ := hk
      exact done_eql W call hW false t x y yt hd ho hvs hm
    · simp only [Option.map_eq_some_iff] at hk
      obtain ⟨d, hd, rfl⟩ := hk
      exact done_eql W call hW true t x y yt hd ho hvs hm
    · simp only [Option.map_eq_some_iff] at hk
      obtain ⟨d, hd, rfl⟩ := hk
      exact done_bin W call _ t x y yt hd ho hvs hm
  · rename_i t x ho; injection hk with hk; subst hk; exact done_not W call t x ho hvs hm
  · rename_i s d x ho
    split at hk
    · rename_i k0 k1 hs hd; injection hk with hk; subst hk; exact done_convInt W call s d _ _ hs hd x ho hvs hm
    · rename_i hs hd; injection hk with hk; subst hk; exact done_convSame W call s d hs hd x ho hvs hm
    · rename_i e hs hd
      split at hk
      · rename_i he; injection hk with hk; subst hk; exact done_convStrBytes W call s d hs hd he x ho hvs hm
      · cases hk
    · rename_i e hs hd
      split at hk
      · rename_i he; injection hk with hk; subst hk; exact done_convBytesStr W call s d hs hd he x ho hvs hm
      · cases hk
    · rename_i e hs hd
      simp only [Option.bind_eq_some_iff] at hk
      obtain ⟨n, hn, hk⟩ := hk
      split at hk
      · cases hk
      · injection hk with hk; subst hk; exact done_toUns W call s d hs hd hn ‹_› x ho hvs hm
    · rename_i u hs hd
      simp only [Option.bind_eq_some_iff] at hk
      obtain ⟨n, hn, hk⟩ := hk
      split at hk
      · cases hk
      · injection hk with hk; subst hk; exact done_fromUns W call hW s d hs hd hn ‹_› x ho hvs hm
    · cases hk
  · rename_i t x ho
    split at hk
    · cases hk
    · rename_i d hn hd
      injection hk with hk; subst hk
      exact done_mkIface W call t x d (by assumption) (fun ms e => by subst e; simp_all) ho hvs hm
    · cases hk
  · rename_i f first cap ho; injection hk with hk; subst hk; exact done_mkFunc W call f first cap ho hvs hm
  · rename_i t ho; injection hk with hk; subst hk; exact done_mkMap W call t ho hvs hm
  · rename_i t x y ok ho
    split at hk
    · rename_i kt e hd
      split at hk
      · rename_i sk hsk
        simp only [Option.map_eq_some_iff] at hk
        obtain ⟨z, hz, rfl⟩ := hk
        exact done_lookup W call t x y ok hd hsk hz ho hvs hm
      · cases hk
    · cases hk
  · rename_i t x y z ho
    split at hk
    · rename_i kt e hd
      simp only [Option.map_eq_some_iff] at hk
      obtain ⟨sk, hsk, rfl⟩ := hk
      exact done_mapUpdate W call t x y z hd hsk ho hvs hm
    · cases hk
  · rename_i t x y ho
    split at hk
    · rename_i e hd
      split at hk
      · rename_i n z hn hz
        split at hk
        · rename_i hc
          injection hk with hk; subst hk
          exact done_mkSlice W call t x y hd hn hc.1 hz hc.2.1 hc.2.2 ho hvs hm
        · cases hk
      · cases hk
    · cases hk
  · rename_i t x lo hi mx ho
    split at hk
    · rename_i hd
      split at hk
      · cases hk
      · rename_i hmx
        injection hk with hk; subst hk
        cases mx with
        | some _ => exact absurd rfl hmx
        | none => exact done_slStr W call t x lo hi hd ho hvs hm
    · rename_i e hd
      split at hk
      · rename_i n hn
        split at hk
        · rename_i hc
          injection hk with hk; subst hk
          exact done_slSlice W call t x lo hi mx hd hn hc.1 hc.2 ho hvs hm
        · cases hk
      · cases hk
    · rename_i len e hd
      split at hk
      · rename_i n hn
        split at hk
        · rename_i hc
          injection hk with hk; subst hk
          cases mx with
          | some _ => exact absurd hc.2 (by simp)
          | none => exact done_slArr W call t x lo hi hd hn hc.1 ho hvs hm
        · cases hk
      · cases hk
    · cases hk
  · rename_i t x f ho
    split at hk
    · rename_i fs hd
      split at hk
      · rename_i g hg
        simp only [Option.bind_eq_some_iff] at hk
        obtain ⟨n, hn, hk⟩ := hk
        split at hk
        · cases hk
        · injection hk with hk; subst hk
          exact done_fieldAddr W call t x f hd hg hn ‹_› ho hvs hm
      · cases hk
    · cases hk
  · rename_i t x f ho
    split at hk
    · rename_i fs hd
      split at hk
      · rename_i g hg
        split at hk
        · rename_i b n hb hn
          injection hk with hk; subst hk
          exact done_field W call t x f hd hg hb hn ho hvs hm
        · cases hk
      · cases hk
    · cases hk
  · rename_i t x i ho
    split at hk
    · rename_i e hd
      simp only [Option.map_eq_some_iff] at hk
      obtain ⟨n, hn, rfl⟩ := hk
      exact done_idxSlice W call t x i hd hn ho hvs hm
    · rename_i len e hd
      simp only [Option.map_eq_some_iff] at hk
      obtain ⟨n, hn, rfl⟩ := hk
      exact done_idxArr W call t x i hd hn ho hvs hm
    · cases hk
  · rename_i t x i ho
    split at hk
    · rename_i hd; injection hk with hk; subst hk; exact done_idxStr W call t x i hd ho hvs hm
    · rename_i len e hd
      split at hk
      · rename_i b n hb hn
        injection hk with hk; subst hk
        exact done_idxAgg W call t x i hd hb hn ho hvs hm
      · cases hk
    · cases hk
  · rename_i x t0 t ok ho
    split at hk
    · cases hk
    · rename_i d hn hd
      simp only [Option.map_eq_some_iff] at hk
      obtain ⟨z, hz, rfl⟩ := hk
      exact done_assertT W call t0 t x ok d (by assumption) (fun ms e => by subst e; simp_all) hz ho hvs hm
    · cases hk
  · rename_i x i ho; injection hk with hk; subst hk; exact done_extract W call x i ho hvs hm
  · rename_i x ho; injection hk with hk; subst hk; exact done_panic W call x ho hvs hm
  · rename_i c ho
    split at hk
    · injection hk with hk; subst hk; cases hnc
    · split at hk
      · injection hk with hk; subst hk; cases hnc
      · cases hk
    · exact bi_sound W call ho ‹_› hk0 hvs hm
  · cases hk
end
end Mu
