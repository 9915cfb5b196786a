/- Each operation of the small code does what the model's does: maps that are written to. -/
import Derived.Test.YtaepllhjnbencaaGreatDoorMuOps6
set_option linter.unusedVariables false
set_option linter.unusedSimpArgs false
namespace Mu
open Go (Value World Addr Program IntKind Sem Result Obj TypeDesc TypeInfo Operand Oper)

section
variable {P : Program} {names : List String} {o : Oper} {a : Go.Act} {ρ : Rho} {m : M} {w : World} (W : Prg) (call : Nat → List V → M → R)

theorem map_toNat_inj : ∀ {a b : List UInt8}, a.map UInt8.toNat = b.map UInt8.toNat → a = b
  | [], [], _ => rfl
  | [], _ :: _, h => by cases h
  | _ :: _, [], h => by cases h
  | x :: a, y :: b, h => by
    simp only [List.map_cons, List.cons.injEq] at h
    rw [UInt8.toNat_inj.1 h.1, map_toNat_inj h.2]

theorem key_same {sk : Bool} {k : V} {x y : Value} (hk : isKey sk k = true) (hx : VR ρ k x) (hy : VR ρ k y) : x = y := by
  rcases isKey_inv hk with ⟨h1, kd', n, rfl⟩ | ⟨h1, s, rfl⟩
  · rw [vr_int hx, vr_int hy]
  · obtain ⟨b1, e1, e3⟩ := vr_str hx
    obtain ⟨b2, e2, e4⟩ := vr_str hy
    have := map_toNat_inj (e3.trans e4.symm)
    have h2 : b1.data = b2.data := Array.toList_inj.1 this
    have : b1 = b2 := by cases b1; cases b2; cases h2; rfl
    rw [e1, e2, this]

theorem key_bits {sk : Bool} {k : V} {x : Value} (hk : isKey sk k = true) (hx : VR ρ k x) (n : Nat) : Go.Instr.sameBits n x x = true := by
  rcases isKey_inv hk with ⟨h1, kd', i, rfl⟩ | ⟨h1, s, rfl⟩
  · rw [vr_int hx]; cases n <;> simp [Go.Instr.sameBits]
  · obtain ⟨b1, e1, e3⟩ := vr_str hx
    rw [e1]; cases n <;> simp [Go.Instr.sameBits, Go.beq_toListBytes]

theorem setK_sound {d : TypeDesc} {k v : V} {x y : Value} (hx : VR ρ k x) (hv : VR ρ v y) (hkd : KeyFits d k) : ∀ {es : List (V × V)} {l : List Go.MapEntry} (hl : KR ρ es l) {es' : List (V × V)} (hr : setK k v es = some es') (i born : Nat),
    ∃ q, Go.Instr.findNow d x l i = some q ∧ ((q = none ∧ KR ρ es' (l ++ [{ key := x, val := y, born }])) ∨ (∃ j z, q = some (i + j, z) ∧ KR ρ es' (l.modify j fun e => { e with key := x, val := y }) ∧ ∃ e, l[j]? = some e ∧ VR ρ k e.key))
  | [], l, hl, es', hr, i, born => by
    simp only [KR] at hl
    subst hl
    simp only [setK, Option.some.injEq] at hr
    subst hr
    exact ⟨none, rfl, .inl ⟨rfl, by simp only [KR, List.nil_append]; exact ⟨_, _, rfl, hx, hv, rfl⟩⟩⟩
  | (k', v') :: es, l, hl, es', hr, i, born => by
    simp only [KR] at hl
    obtain ⟨e, l', rfl, h2, h3, h4⟩ := hl
    simp only [setK] at hr
    cases he : eqKey k k' with
    | none => simp [he] at hr
    | some b =>
      obtain ⟨hs, hs2⟩ := sameNow_sound he hx h2 hkd
      cases b with
      | true =>
        simp only [he, Option.some.injEq] at hr
        subst hr
        have := hs2 rfl
        subst this
        refine ⟨some (i, e.val), by simp [Go.Instr.findNow, hs], .inr ⟨0, e.val, rfl, ?_, e, rfl, h2⟩⟩
        simp only [List.modify_zero_cons, KR]
        exact ⟨_, _, rfl, hx, hv, h4⟩
      | false =>
        simp only [he, Option.map_eq_some_iff] at hr
        obtain ⟨es2, hr2, rfl⟩ := hr
        obtain ⟨q, q1, q2⟩ := setK_sound hx hv hkd h4 hr2 (i + 1) born
        refine ⟨q, by simp [Go.Instr.findNow, hs, q1], ?_⟩
        rcases q2 with ⟨e1, e2⟩ | ⟨j, z, e1, e2, e3, e4, e5⟩
        · exact .inl ⟨e1, by simp only [KR, List.cons_append]; exact ⟨_, _, rfl, h2, h3, e2⟩⟩
        · refine .inr ⟨j + 1, z, by rw [e1]; congr 2; omega, ?_, e3, by simpa using e4, e5⟩
          simp only [List.modify_succ_cons, KR]
          exact ⟨_, _, rfl, h2, h3, e2⟩

theorem delK_sound {d : TypeDesc} {k : V} {x : Value} (hx : VR ρ k x) (hkd : KeyFits d k) : ∀ {es : List (V × V)} {l : List Go.MapEntry} (hl : KR ρ es l) {es' : List (V × V)} (hr : delK k es = some es') (i : Nat),
    ∃ q, Go.Instr.findNow d x l i = some q ∧ ((q = none ∧ KR ρ es' l) ∨ (∃ j z, q = some (i + j, z) ∧ j < l.length ∧ KR ρ es' (l.eraseIdx j)))
  | [], l, hl, es', hr, i => by
    simp only [KR] at hl
    subst hl
    simp only [delK, Option.some.injEq] at hr
    subst hr
    exact ⟨none, rfl, .inl ⟨rfl, by simp only [KR]⟩⟩
  | (k', v') :: es, l, hl, es', hr, i => by
    simp only [KR] at hl
    obtain ⟨e, l', rfl, h2, h3, h4⟩ := hl
    simp only [delK] at hr
    cases he : eqKey k k' with
    | none => simp [he] at hr
    | some b =>
      obtain ⟨hs, hs2⟩ := sameNow_sound he hx h2 hkd
      cases b with
      | true =>
        simp only [he, Option.some.injEq] at hr
        subst hr
        exact ⟨some (i, e.val), by simp [Go.Instr.findNow, hs], .inr ⟨0, e.val, rfl, by simp, by simpa using h4⟩⟩
      | false =>
        simp only [he, Option.map_eq_some_iff] at hr
        obtain ⟨es2, hr2, rfl⟩ := hr
        obtain ⟨q, q1, q2⟩ := delK_sound hx hkd h4 hr2 (i + 1)
        refine ⟨q, by simp [Go.Instr.findNow, hs, q1], ?_⟩
        rcases q2 with ⟨e1, e2⟩ | ⟨j, z, e1, e2, e3⟩
        · exact .inl ⟨e1, by simp only [KR]; exact ⟨_, _, rfl, h2, h3, e2⟩⟩
        · refine .inr ⟨j + 1, z, by rw [e1]; congr 2; omega, by simp; omega, ?_⟩
          simp only [List.eraseIdx_cons_succ, KR]
          exact ⟨_, _, rfl, h2, h3, e3⟩

theorem run_setObj_map {r : Nat} {es : Array Go.MapEntry} {clock : Nat} (o : Obj) (hb : w.heap[r]? = some (.map es clock)) : (Go.setObj r o).run P w = .ok () { w with heap := w.heap.setIfInBounds r o } := by
  simp [Go.setObj, Sem.run, hb]

theorem Stamps.push {l : List Go.MapEntry} {clock : Nat} (h : Stamps l clock) (x y : Value) : Stamps (l ++ [{ key := x, val := y, born := clock }]) (clock + 1) := by
  refine ⟨fun e he => ?_, ?_⟩
  · rw [List.mem_append, List.mem_singleton] at he
    rcases he with he | rfl
    · exact Nat.lt_succ_of_lt (h.1 e he)
    · exact Nat.lt_succ_self _
  · rw [List.map_append, List.nodup_append]
    refine ⟨h.2, by simp, fun a ha b hb e => ?_⟩
    rw [List.mem_map] at ha
    obtain ⟨x, hx, rfl⟩ := ha
    simp at hb
    have := h.1 x hx
    omega

theorem Stamps.modify {l : List Go.MapEntry} {clock : Nat} (h : Stamps l clock) (j : Nat) (f : Go.MapEntry → Go.MapEntry) (hf : ∀ e, (f e).born = e.born) : Stamps (l.modify j f) clock := by
  have hmap : (l.modify j f).map (·.born) = l.map (·.born) := by
    clear h
    induction l generalizing j with
    | nil => cases j <;> simp
    | cons x r ih => cases j <;> simp [hf, ih]
  refine ⟨fun e he => ?_, by rw [hmap]; exact h.2⟩
  have : e.born ∈ l.map (·.born) := by rw [← hmap]; exact List.mem_map.2 ⟨e, he, rfl⟩
  obtain ⟨x, hx, hb⟩ := List.mem_map.1 this
  rw [← hb]
  exact h.1 x hx

theorem Stamps.erase {l : List Go.MapEntry} {clock : Nat} (h : Stamps l clock) (j : Nat) : Stamps (l.eraseIdx j) clock :=
  ⟨fun e he => h.1 e (List.mem_of_mem_eraseIdx he), (List.Sublist.map _ (List.eraseIdx_sublist _ _)).nodup h.2⟩

/-- a map's entries are turned into others -/
theorem MR.putMap (hm : MR ρ m w) {b : Nat} {L : Loc} {es es' : List (V × V)} (h1 : ρ b = some L) (hg : m.get b = some (.map es)) {ents' : Array Go.MapEntry} (clock' : Nat) (hk : KR ρ es' ents'.toList) (hst : Stamps ents'.toList clock') :
    Good ρ m w ρ (m.put b (.map es')) { w with heap := w.heap.setIfInBounds L.blk (.map ents' clock') } := by
  refine hm.write h1 (by unfold owns; rw [hg]; trivial) ?_ rfl rfl rfl (by simp) fun r hr => by simp [Array.getElem?_setIfInBounds_ne hr.symm]
  have := hm.size b L h1
  simp only [BR]
  exact ⟨ents', clock', by simp [Array.getElem?_setIfInBounds, this], hk, hst⟩

theorem done_mapUpdate (t : Nat) (x y z : Operand) {kt e : Nat} (hd : P.underlying t = some (.map kt e)) {sk : Bool} (hk : keyT P kt = some sk) (ho : o.op = .mapUpdate t x y z) {vs : List V}
    (hvs : VRL ρ vs (o.op.operands.toList.map a.eval)) (hm : MR ρ m w) : Done P o a ρ m w (evK W call m (.mapUpdate sk) vs) := by
  have hop : o.op.operands = #[x, y, z] := by rw [ho]; rfl
  rw [hop] at hvs
  obtain ⟨v, k, u, rfl, hv, hkv, hu⟩ := hvs.three_inv
  cases v with
  | map b =>
    simp only [VR] at hv
    obtain ⟨L, h1, h2⟩ := hv
    simp only [evK]
    cases hg : m.get b with
    | none => simp [Done]
    | some blk =>
      cases blk with
      | map es =>
        simp only
        split
        · rename_i hik
          obtain ⟨ents, clock, g1, g2, g3⟩ := hm.map2 h1 hg
          cases hs : setK k u es with
          | none => simp [Done]
          | some es' =>
            obtain ⟨d, hkt, hkd⟩ := keyFits hk hik
            obtain ⟨q, q1, q2⟩ := setK_sound hkv hu hkd g2 hs 0 clock
            have hf : (Go.Instr.findKey kt (a.eval y) ents.toList).run P w = .ok q w := by simp [Go.Instr.findKey, Go.run_underlying hkt, q1]
            simp only
            rcases q2 with ⟨rfl, e2⟩ | ⟨j, zz, rfl, e2, e3, e4, e5⟩
            · refine ⟨Go.undef, _, ρ, .inr ⟨?_, rfl⟩, by simp [VR, VRL, Go.undef], hm.putMap h1 hg (ents' := ents.push { key := a.eval y, val := a.eval z, born := clock }) (clock + 1) (by simpa using e2) (by simpa using g3.push _ _)⟩
              simp [Go.execOp, ho, h2, Go.Instr.mapUpdate, Go.run_underlying hd, run_getObj_map g1, run_checkKey hk _ hik hkv, hf, run_setObj_map _ g1]
            · have hky : e3.key = a.eval y := key_same hik e5 hkv
              have hst : (Go.Instr.keyThatStays (((ents[j]?).map (·.key)).getD (a.eval y)) (a.eval y)).run P w = .ok (a.eval y) w := by
                have : ents[j]? = some e3 := by rw [← Array.getElem?_toList]; exact e4
                simp [this, Go.Instr.keyThatStays, hky, key_bits hik hkv]
              refine ⟨Go.undef, _, ρ, .inr ⟨?_, rfl⟩, by simp [VR, VRL, Go.undef], hm.putMap h1 hg (ents' := ents.modify j fun e => { e with key := a.eval y, val := a.eval z }) clock (by simpa using e2) (by rw [Array.toList_modify]; exact g3.modify j _ fun _ => rfl)⟩
              simp [Go.execOp, ho, h2, Go.Instr.mapUpdate, Go.run_underlying hd, run_getObj_map g1, run_checkKey hk _ hik hkv, hf, hst, run_setObj_map _ g1]
        · simp [Done]
      | _ => simp [Done]
  | _ => simp [evK, Done]

theorem done_delete {c : Go.Call} {t t2 kt e : Nat} (hd : P.underlying t = some (.map kt e)) {sk : Bool} (hk : keyT P kt = some sk) (ho : o.op = .call c)
    (hb : c.callee = .builtin .delete) (ht : c.argTypes.toList = [t, t2]) {vs : List V} (hvs : VRL ρ vs (o.op.operands.toList.map a.eval)) (hm : MR ρ m w) : Done P o a ρ m w (evK W call m (.delete sk) vs) := by
  rw [builtin_operands ho hb] at hvs
  obtain ⟨cs0, hrun⟩ := run_builtin (P := P) (a := a) (w := w) ho hb
  rcases vs with _ | ⟨s, _ | ⟨k, _ | ⟨_, _⟩⟩⟩
  · simp [evK, Done]
  · cases s <;> simp [evK, Done]
  case cons.cons.cons => cases s <;> simp [evK, Done]
  obtain ⟨s', l, h1, hs, hr⟩ := hvs.cons_v
  obtain ⟨k', h2, hkv⟩ := hr.one_v
  subst h2
  rw [arr_two h1, arr_two ht] at hrun
  cases s with
  | map b =>
    simp only [VR] at hs
    obtain ⟨L, h3, h4⟩ := hs
    simp only [evK]
    cases hg : m.get b with
    | none => simp [Done]
    | some blk =>
      cases blk with
      | map es =>
        simp only
        split
        · rename_i hik
          obtain ⟨ents, clock, g1, g2, g3⟩ := hm.map2 h3 hg
          cases hs : delK k es with
          | none => simp [Done]
          | some es' =>
            obtain ⟨d, hkt, hkd⟩ := keyFits hk hik
            obtain ⟨q, q1, q2⟩ := delK_sound hkv hkd g2 hs 0
            have hf : (Go.Instr.findKey kt k' ents.toList).run P w = .ok q w := by simp [Go.Instr.findKey, Go.run_underlying hkt, q1]
            simp only
            rcases q2 with ⟨rfl, e2⟩ | ⟨j, zz, rfl, e2, e3⟩
            · refine ⟨.tuple #[], _, ρ, .inl ?_, by simp [VR, VRL], hm.putMap h3 hg (ents' := ents) clock e2 g3⟩
              rw [hrun]
              simp [Go.builtin, Go.Builtin.delete_, h4, Go.run_underlying hd, run_getObj_map g1, run_checkKey hk _ hik hkv, hf, run_setObj_map _ g1]
            · refine ⟨.tuple #[], _, ρ, .inl ?_, by simp [VR, VRL], hm.putMap h3 hg (ents' := ents.eraseIdxIfInBounds j) clock (by
                have hj : j < ents.size := by simpa using e2
                simp only [Array.eraseIdxIfInBounds, hj, dite_true, Array.toList_eraseIdx]; exact e3) (by
                have hj : j < ents.size := by simpa using e2
                simp only [Array.eraseIdxIfInBounds, hj, dite_true, Array.toList_eraseIdx]; exact g3.erase j)⟩
              rw [hrun]
              simp [Go.builtin, Go.Builtin.delete_, h4, Go.run_underlying hd, run_getObj_map g1, run_checkKey hk _ hik hkv, hf, run_setObj_map _ g1]
        · simp [Done]
      | _ => simp [Done]
  | _ => simp [evK, Done]
end
end Mu
