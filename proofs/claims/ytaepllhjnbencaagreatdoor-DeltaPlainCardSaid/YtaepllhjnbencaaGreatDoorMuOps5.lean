/- Each operation of the small code does what the model's does: append, copy, clear, maps. -/
import Derived.Test.YtaepllhjnbencaaGreatDoorMuOps4
set_option linter.unusedVariables false
set_option linter.unusedSimpArgs false
set_option maxHeartbeats 1000000
namespace Mu
open Go (Value World Addr Program IntKind Sem Result Obj TypeDesc TypeInfo Operand Oper)

section
variable {P : Program} {names : List String} {o : Oper} {a : Go.Act} {ρ : Rho} {m : M} {w : World} (W : Prg) (call : Nat → List V → M → R)

theorem VRC.take {l : List V} {l' : List Value} (h : VRC ρ l l') (n : Nat) : VRC ρ (l.take n) (l'.take n) := by
  have hl := h.length
  refine VRC.of (by simp [hl]) fun i x hx => ?_
  have hi : i < n := by
    have := (List.getElem?_eq_some_iff.1 hx).1
    simp at this
    omega
  simp only [List.getElem?_take, if_pos hi] at hx ⊢
  exact h.get _ _ hx

theorem VRC.append : ∀ {l k : List V} {l' k' : List Value}, VRC ρ l l' → VRC ρ k k' → VRC ρ (l ++ k) (l' ++ k')
  | [], _, _, _, h, g => by simp only [VRC] at h; subst h; simpa using g
  | x :: r, _, _, _, h, g => by
    simp only [VRC] at h
    obtain ⟨x', r', h1, h2, h3, h4⟩ := h
    subst h1
    simp only [List.cons_append, VRC]
    exact ⟨x', _, rfl, h2, h3, h4.append g⟩

theorem VRC.nil_v {l : List Value} (h : VRC ρ [] l) : l = [] := by simpa only [VRC] using h

theorem bytes_vrc : ∀ (l : List UInt8), VRC ρ ((l.map UInt8.toNat).map fun n => V.int .u8 (Int.ofNat n)) (l.map fun b => Value.int .u8 b.toNat)
  | [] => by simp [VRC]
  | b :: r => by
    simp only [List.map_cons, VRC]
    exact ⟨_, _, rfl, by simp [VR], rfl, bytes_vrc r⟩

/-- what is appended or copied is read -/
theorem rdSl_sound (hm : MR ρ m w) {es : Nat} {v : V} {x : Value} {l : List V} (h : rdSl es v m = some l) (hv : VR ρ v x) :
    (Go.Builtin.lenOf x).run P w = .ok (lenV v) w ∧ l.length = lenV v * es ∧
      ∀ n, n ≤ lenV v → ∃ l' : Array Value, (∀ w' : World, w'.heap = w.heap → (Go.Builtin.firstCells es n x).run P w' = .ok l' w') ∧ VRC ρ (l.take (n * es)) l'.toList := by
  cases v <;> simp only [rdSl, reduceCtorEq] at h
  case str s =>
    obtain ⟨bs, rfl, h2⟩ := vr_str hv
    split at h
    · rename_i he
      subst he
      injection h with h
      subst h
      refine ⟨by simp [Go.Builtin.lenOf, lenV, str_len h2], by simp [lenV], fun n hn => ?_⟩
      refine ⟨_, fun _ _ => rfl, ?_⟩
      rw [Nat.mul_one, ← List.map_take, ← h2, ← List.map_take]
      have : (bs.extract 0 n).data.toList = bs.data.toList.take n := by
        rw [ByteArray.data_extract, Array.toList_extract, List.extract_eq_take_drop]
        simp
      rw [Array.toList_map, this]
      exact bytes_vrc _
    · cases h
  case snil =>
    simp only [VR] at hv
    subst hv
    injection h with h
    subst h
    exact ⟨rfl, by simp [lenV], fun n hn => ⟨#[], fun _ _ => rfl, by simp [VRC]⟩⟩
  case sl b off len cap es' ex =>
    simp only [VR] at hv
    obtain ⟨L, c', p, h1, rfl, hp, hlc, hcc, _⟩ := hv
    split at h
    · rename_i he
      subst he
      cases hg : m.get b with
      | none => simp [hg] at h
      | some blk =>
        cases blk with
        | cells cs own t =>
          simp only [hg] at h
          split at h
          · rename_i hle
            injection h with h
            subst h
            refine ⟨rfl, by simp [lenV, slice1]; omega, fun n hn => ?_⟩
            simp only [lenV] at hn
            have hmul : n * es ≤ len * es := Nat.mul_le_mul_right es hn
            by_cases hn0 : n * es = 0
            · refine ⟨#[], fun w' _ => ?_, by simp [hn0, VRC]⟩
              simp only [Go.Builtin.firstCells, hn0]
              rfl
            · have hlen : len ≠ 0 := by
                rintro rfl
                simp at hmul
                omega
              have := hp (by omega)
              subst this
              obtain ⟨l', k1, k2, k3⟩ := hm.load (P := P) h1 hg (o := off) (n := n * es) (by omega)
              refine ⟨l'.toArray, k1, ?_⟩
              have : (slice1 cs off (len * es)).take (n * es) = slice1 cs off (n * es) := by
                simp only [slice1, List.take_take, Nat.min_eq_left hmul]
              rw [this]
              simpa using k2
          · cases h
        | _ => simp [hg] at h
    · cases h

theorem growBy_le (n : Nat) : ∀ (r c : Nat), Go.Builtin.growBy n r c ≤ max c (n + (n + 768) / 4)
  | 0, c => by simp [Go.Builtin.growBy]; omega
  | r + 1, c => by
    simp only [Go.Builtin.growBy]
    split
    · omega
    · have := growBy_le n r (c + (c + 768) / 4)
      omega

theorem growBy_le2 (n : Nat) : ∀ (r c : Nat), 256 ≤ c → Go.Builtin.growBy n r c ≤ max c (2 * n)
  | 0, c, _ => by simp [Go.Builtin.growBy]; omega
  | r + 1, c, h => by
    simp only [Go.Builtin.growBy]
    split
    · omega
    · have := growBy_le2 n r (c + (c + 768) / 4) (by omega)
      omega
theorem nextcap_le {need old : Nat} (h : old < need) (b : Nat) (hn : need * b ≤ 2 ^ 47) : Go.Builtin.nextslicecap need old * b ≤ 2 ^ 48 := by
  have h1 : Go.Builtin.nextslicecap need old ≤ 2 * need := by
    unfold Go.Builtin.nextslicecap
    split
    · omega
    · split
      · omega
      · have := growBy_le2 need 4 old (by omega)
        omega
  calc _ ≤ 2 * need * b := Nat.mul_le_mul_right b h1
    _ = 2 * (need * b) := Nat.mul_assoc ..
    _ ≤ 2 * 2 ^ 47 := Nat.mul_le_mul_left 2 hn
    _ = 2 ^ 48 := by decide

/-- a block dies -/
theorem MR.kill (hm : MR ρ m w) {b : Nat} {L : Loc} (hb : ρ b = some L) (ho : owns m b) : Good ρ m w ρ (m.put b .dead) w :=
  hm.write hb ho (by simp only [BR]) rfl rfl rfl rfl (fun _ _ => rfl)

/-- a row grows where it lies: a new abstract block takes the place of the old one -/
theorem MR.grow (hm : MR ρ m w) {b : Nat} {L : Loc} (hb : ρ b = some L) (ho : owns m b) {w' : World} (os : w'.os = w.os) (tape : w'.tape = w.tape) (output : w'.output = w.output) (hsize : w'.heap.size = w.heap.size)
    (hh : ∀ r, r ≠ L.blk → w'.heap[r]? = w.heap[r]?) {L' : Loc} (hL : L'.blk = L.blk) {x : Blk} (hx : BR (ρ.ext m.n L') w' L' x) :
    Good ρ m w (ρ.ext m.n L') ((m.put b .dead).new x) w' := by
  have hk : Good ρ m w ρ (m.put b .dead) w' := hm.write hb ho (by simp only [BR]) os tape output hsize hh
  have hfr := hm.fresh
  have hsub := Sub.ext (ρ := ρ) L' hfr
  have hn : (m.put b .dead).n = m.n := rfl
  have hne : ∀ c Lc, ρ c = some Lc → c ≠ m.n := fun c Lc hc e => by have := hm.dom c Lc hc; omega
  refine ⟨⟨?_, ?_, ?_, ?_⟩, hsub, ?_, Nat.le_succ _, os, tape, output, Nat.le_of_eq hsize.symm, hk.frame, ?_⟩
  · intro c Lc hc
    by_cases e : c = m.n
    · subst e; simp
    · rw [Rho.ext_ne _ _ e] at hc
      have := hm.dom c Lc hc
      simp; omega
  · intro c Lc hc y hy
    by_cases e : c = m.n
    · subst e
      rw [Rho.ext_same] at hc
      injection hc with hc
      subst hc
      rw [← hn, M.get_new_same] at hy
      injection hy with hy
      subst hy
      exact hx
    · rw [Rho.ext_ne _ _ e] at hc
      rw [M.get_new_ne _ _ _ (by rw [hn]; exact e)] at hy
      exact (hk.mr.blk c Lc hc y hy).congr hsub rfl
  · intro c Lc c' Lc' hc hc' hoc hlc hcc
    by_cases e : c = m.n
    · subst e
      rw [Rho.ext_same] at hc
      injection hc with hc
      subst hc
      rw [Rho.ext_ne _ _ (Ne.symm hcc)] at hc'
      have hl1 : lives (m.put b .dead) c' := (lives_new (by rw [hn]; exact Ne.symm hcc)).1 hlc
      have hcb : b ≠ c' := by
        rintro rfl
        unfold lives at hl1
        rw [M.get_put_same] at hl1
        exact hl1
      rw [hL]
      exact hm.inj b L c' Lc' hb hc' ho ((lives_put hcb).1 hl1) hcb
    · rw [Rho.ext_ne _ _ e] at hc
      have ho1 : owns (m.put b .dead) c := (owns_new (by rw [hn]; exact e)).1 hoc
      have hcb : b ≠ c := by
        rintro rfl
        unfold owns at ho1
        rw [M.get_put_same] at ho1
        exact ho1
      by_cases e' : c' = m.n
      · subst e'
        rw [Rho.ext_same] at hc'
        injection hc' with hc'
        subst hc'
        rw [hL]
        exact hm.inj c Lc b L hc hb ((owns_put hcb).1 ho1) ho.lives hcb.symm
      · rw [Rho.ext_ne _ _ e'] at hc'
        exact hk.mr.inj c Lc c' Lc' hc hc' ho1 ((lives_new (by rw [hn]; exact e')).1 hlc) hcc
  · intro c Lc hc
    by_cases e : c = m.n
    · subst e
      rw [Rho.ext_same] at hc
      injection hc with hc
      subst hc
      rw [hL, hsize]
      exact hm.size _ _ hb
    · rw [Rho.ext_ne _ _ e] at hc
      exact hk.mr.size c Lc hc
  · intro c h1 h2
    by_cases e : c = m.n
    · omega
    · rw [Rho.ext_ne _ _ e] at h2; exact absurd h1 h2
  · rintro r ⟨c, Lc, hc, hoc, he⟩
    by_cases e : c = m.n
    · subst e
      rw [Rho.ext_same] at hc
      injection hc with hc
      subst hc
      exact .inl ⟨b, L, hb, ho, by rw [← he, hL]⟩
    · rw [Rho.ext_ne _ _ e] at hc
      have ho1 : owns (m.put b .dead) c := (owns_new (by rw [hn]; exact e)).1 hoc
      rcases hk.img r ⟨c, Lc, hc, ho1, he⟩ with h | h
      · exact .inl h
      · exact .inr h

/-- append makes a new row -/
theorem MR.appended (hm : MR ρ m w) {cs : List V} {old new : Array Value} (hc : VRC ρ cs (old ++ new).toList) (rest : Array Value) (t : Nat) (endd : Nat) (he : endd = (old ++ new ++ rest).size) :
    Good ρ m w (ρ.ext m.n ⟨w.heap.size, 0, endd⟩) (m.new (.cells cs .rw t)) { w.drew with heap := w.heap.push (.cells (old ++ new ++ rest) t) } := by
  have h0 := Good.tick hm
  have hl := hc.length
  simp only [Array.length_toList, Array.size_append] at hl
  refine h0.trans (h0.mr.alloc _ (.cells (old ++ new ++ rest) t) endd ?_)
  simp only [BR]
  refine ⟨_, t, (0, 0), by show (w.heap.push _)[w.heap.size]? = _; rw [Array.getElem?_push_size], by simp; omega, fun i x hx => ?_, fun _ => ⟨rfl, he, trivial⟩, fun _ => rfl, by simp⟩
  obtain ⟨x', k1, k2, k3⟩ := hc.get i x hx
  refine ⟨x', ?_, k2.mono (Sub.ext _ hm.fresh), k3⟩
  have hi : i < (old ++ new).size := by
    have := (List.getElem?_eq_some_iff.1 k1).1
    simpa using this
  rw [Nat.zero_add, Array.getElem?_append_left hi, ← Array.getElem?_toList]
  exact k1

theorem zeroCells_size (z : Array Value) (n : Nat) : (Go.Builtin.zeroCells z n).size = n * z.size := by simp [Go.Builtin.zeroCells]

theorem fewBytes_inv {e : Nat} (h : fewBytes P e = true) : ∃ i, P.info? e = some i ∧ i.bytes ≤ 65536 := by
  unfold fewBytes at h
  cases hi : P.info? e with
  | none => simp [hi] at h
  | some i => simp [hi] at h; exact ⟨i, rfl, h⟩

/-- the model's append, where it has to make a new row -/
theorem run_append_new {t u e : Nat} (hd : P.underlying t = some (.slice e)) (hu : (∃ e', P.underlying u = some (.slice e')) ∨ P.underlying u = some .string) {n : Nat} (hn : sizeT P e = some n) {z : List V}
    (hz : zeroT P e = some z) (hzl : z.length = n) {by_ : Nat} (hf : bytesT P e = some by_) (hby : 0 < by_) (ty : Nat) {base : Option Addr} {sLen sCap k : Nat} {x : Value} (hlen : (Go.Builtin.lenOf x).run P w = .ok k w)
    (hneed : sCap < sLen + k) (hbig : (sLen + k) * by_ ≤ 2 ^ 47) {old new : Array Value} (hold : (Go.Builtin.firstCells n sLen (.slice base sLen sCap)).run P w.drew = .ok old w.drew)
    (hnew : (Go.Builtin.firstCells n k x).run P w.drew = .ok new w.drew) : ∃ (rest : Array Value) (c : Nat), (Go.Builtin.append_ #[t, u] ty #[.slice base sLen sCap, x]).run P w =
      .ok (.slice (some ⟨w.heap.size, 0, none⟩) (sLen + k) c) { w.drew with heap := w.heap.push (.cells (old ++ new ++ rest) e) } ∧ sLen + k ≤ c ∧ rest.size = (c - (sLen + k)) * n := by
  obtain ⟨zv, h1, h2⟩ := zeroT_inv hz
  obtain ⟨i, hi, hib⟩ : ∃ i, P.info? e = some i ∧ i.bytes = by_ := by
    unfold bytesT at hf
    cases hi : P.info? e with
    | none => simp [hi] at hf
    | some i => simp [hi] at hf; exact ⟨i, rfl, hf⟩
  have hzs : zv.cells.size = n := by
    have := (h2 (fun _ => none)).length
    simp only [Array.length_toList] at this
    omega
  have hty : (Go.typeInfo e).run P w = .ok i w := by simp [Go.typeInfo, hi]
  obtain ⟨c, hc, hcc⟩ : ∃ c, sLen + k ≤ c ∧ (Go.Question.appendCap (sLen + k) sCap e).cut (w.tape w.drawn (.appendCap (sLen + k) sCap e)) = c := ⟨_, by simp only [Go.Question.cut]; exact Nat.le_add_right _ _, rfl⟩
  refine ⟨Go.Builtin.zeroCells zv.cells (c - (sLen + k)), c, ?_, hc, by rw [zeroCells_size, hzs]⟩
  have hin : i.size = n := by
    unfold sizeT at hn
    simpa [hi] using hn
  subst hin
  have hn1 : ¬ (sLen + k ≤ sCap) := by omega
  have hle : sLen + k ≤ 2 ^ 47 := Nat.le_trans (Nat.le_mul_of_pos_right _ hby) hbig
  have hn2 : ¬ (9223372036854775807 < ((sLen : Int) + (k : Int))) := by
    omega
  have hn3 : ¬ (281474976710656 < Go.Builtin.nextslicecap (sLen + k) sCap * i.bytes) := by
    have := nextcap_le hneed i.bytes (hib ▸ hbig)
    omega
  have hq : (Go.Question.appendCap (sLen + k) sCap e).forced = false := rfl
  have hzt := h1 w.drew
  rcases hu with ⟨e', hu⟩ | hu
  · simp [Go.Builtin.append_, Go.run_underlying hd, Go.run_underlying hu, Go.sizeOf, Go.typeInfo, hi, hlen, hn1, hn2, hn3, hq, hcc, hold, hnew, hzt, Go.newRow]
    rfl
  · simp [Go.Builtin.append_, Go.run_underlying hd, Go.run_underlying hu, Go.sizeOf, Go.typeInfo, hi, hlen, hn1, hn2, hn3, hq, hcc, hold, hnew, hzt, Go.newRow]
    rfl

theorem run_append_room {t u e : Nat} (hd : P.underlying t = some (.slice e)) (hu : (∃ e', P.underlying u = some (.slice e')) ∨ P.underlying u = some .string) {n : Nat} (hn : sizeT P e = some n) (ty : Nat)
    {base : Option Addr} {sLen sCap k : Nat} {x : Value} (hlen : (Go.Builtin.lenOf x).run P w = .ok k w) (hroom : sLen + k ≤ sCap) {new : Array Value} (hnew : (Go.Builtin.firstCells n k x).run P w = .ok new w) {w' : World}
    (hst : (match base with | some p => Go.storeCells (p.add (sLen * n)) new.toList | none => pure ()).run P w = .ok () w') :
    (Go.Builtin.append_ #[t, u] ty #[.slice base sLen sCap, x]).run P w = .ok (.slice base (sLen + k) sCap) w' := by
  have hsz := run_sizeOf' (P := P) (w := w) hn
  rcases hu with ⟨e', hu⟩ | hu
  · cases base with
    | none => simp at hst; subst hst; simp [Go.Builtin.append_, Go.run_underlying hd, Go.run_underlying hu, hsz, hlen, hroom, hnew]
    | some p => simp [Go.Builtin.append_, Go.run_underlying hd, Go.run_underlying hu, hsz, hlen, hroom, hnew, hst]
  · cases base with
    | none => simp at hst; subst hst; simp [Go.Builtin.append_, Go.run_underlying hd, Go.run_underlying hu, hsz, hlen, hroom, hnew]
    | some p => simp [Go.Builtin.append_, Go.run_underlying hd, Go.run_underlying hu, hsz, hlen, hroom, hnew, hst]

theorem run_storeCells_nil (p : Addr) : (Go.storeCells p []).run P w = .ok () w := rfl

theorem done_append {c : Go.Call} {t u e : Nat} (hd : P.underlying t = some (.slice e)) (hu : (∃ e', P.underlying u = some (.slice e')) ∨ P.underlying u = some .string) {n : Nat} (hn : sizeT P e = some n) (h0 : 0 < n)
    {z : List V} (hz : zeroT P e = some z) (hzl : z.length = n) {by_ : Nat} (hf : bytesT P e = some by_) (hby : 0 < by_) (ho : o.op = .call c) (hb : c.callee = .builtin .append) (ht : c.argTypes.toList = [t, u]) {vs : List V}
    (hvs : VRL ρ vs (o.op.operands.toList.map a.eval)) (hm : MR ρ m w) : Done P o a ρ m w (evK W call m (.append e n by_) vs) := by
  rw [builtin_operands ho hb] at hvs
  obtain ⟨cs0, hrun⟩ := run_builtin (P := P) (a := a) (w := w) ho hb
  rcases vs with _ | ⟨s, _ | ⟨x, _ | ⟨y, r⟩⟩⟩
  · simp [evK, Done]
  · simp [evK, Done]
  case cons.cons.cons => simp [evK, Done]
  obtain ⟨s', x', h1, hs, hx⟩ := hvs.two_v
  rw [arr_two h1, arr_two ht] at hrun
  simp only [evK, evAppend]
  cases hrd : rdSl n x m with
  | none => simp [Done]
  | some new =>
    simp only
    obtain ⟨q1, q2, q3⟩ := rdSl_sound (P := P) hm hrd hx
    obtain ⟨nw, q4, q5⟩ := q3 _ (Nat.le_refl _)
    rw [List.take_of_length_le (by omega)] at q5
    have hnwl := q5.length
    simp only [Array.length_toList] at hnwl
    have fin : ∀ {v : V} {z : Value} {m' : M} {w' : World} {ρ' : Rho}, (Go.Builtin.append_ #[t, u] o.type #[s', x']).run P w = .ok z w' → VR ρ' v z → Good ρ m w ρ' m' w' → Done P o a ρ m w (.ok v m') :=
      fun hr hv hg => ⟨_, _, _, .inl (by rw [hrun]; simp [Go.builtin, hr]), hv, hg⟩
    have hnew' : (Go.Builtin.firstCells n (lenV x) x').run P w.drew = .ok nw w.drew := q4 w.drew rfl
    replace q4 := q4 w rfl
    cases s with
    | snil =>
      simp only [VR] at hs
      subst hs
      simp only
      split
      · rename_i hk
        rw [hk] at q1
        have hnw0 : nw = #[] := Array.eq_empty_of_size_eq_zero (by rw [hnwl, q2, hk]; simp)
        have := run_append_room (P := P) (w := w) (ty := o.type) hd hu hn (base := none) (sLen := 0) (sCap := 0) q1 (by omega) (by rw [hk] at q4; exact q4) (w' := w) (by rw [hnw0]; rfl)
        exact fin this (by simp [VR]) (Good.refl hm)
      · split
        · simp [Done]
        · rename_i hk hbig
          obtain ⟨rest, c', g1, g2, g3⟩ := run_append_new (P := P) (w := w) (ty := o.type) hd hu hn hz hzl hf hby (base := none) (sLen := 0) (sCap := 0) q1 (by omega) (by rw [Nat.zero_add]; omega) (old := #[]) (by rfl) hnew'
          have hcc : VRC ρ new (#[] ++ nw).toList := by simpa using q5
          have hg := hm.appended hcc rest e ((#[] ++ nw ++ rest).size) rfl
          refine fin g1 ?_ hg
          simp only [VR, Nat.zero_add]
          refine ⟨_, c', _, Rho.ext_same _ _ _, rfl, fun _ => rfl, Nat.le_refl _, by omega, by simp, fun _ => ?_⟩
          simp only [Array.size_append, g3, hnwl, q2, Nat.zero_add]
          simp only [List.size_toArray, List.length_nil, Nat.zero_add]
          rw [← Nat.add_mul]
          congr 1
          omega
    | sl b off len cap es ex =>
      simp only [VR] at hs
      obtain ⟨L, c', p, e1, rfl, hp, hlc, hcc, he1, he2⟩ := hs
      simp only
      split
      · rename_i hes
        subst hes
        split
        · rename_i hk
          rw [hk] at q1
          have hnw0 : nw = #[] := Array.eq_empty_of_size_eq_zero (by rw [hnwl, q2, hk]; simp)
          have := run_append_room (P := P) (w := w) (ty := o.type) hd hu hn (base := some p) (sLen := len) (sCap := c') q1 (by omega) (by rw [hk] at q4; exact q4) (w' := w) (by rw [hnw0]; rfl)
          refine fin this ?_ (Good.refl hm)
          simp only [VR]
          exact ⟨L, c', p, e1, by simp, hp, hlc, hcc, he1, he2⟩
        · rename_i hk
          split
          · simp [Done]
          · rename_i hbig
            cases hg : m.get b with
            | none => simp [Done]
            | some blk =>
              cases blk with
              | cells cs own t' =>
                simp only
                split
                · rename_i hroom
                  split
                  · rename_i hcond
                    obtain ⟨k1, k2⟩ := hcond
                    have hpp := hp (by omega)
                    subst hpp
                    have hsp : off + len * n + new.length ≤ cs.length := by rw [q2]; rw [Nat.add_mul] at k2; omega
                    obtain ⟨w', g1, g2⟩ := hm.store (P := P) (o := off + len * n) (l := new) (l' := nw.toList) e1 hg (by rintro rfl; simp [canWrite] at k1) q5 hsp
                    have := run_append_room (P := P) (w := w) (ty := o.type) hd hu hn (base := some ⟨L.blk, L.base + off, none⟩) (sLen := len) (sCap := c') q1 (by omega) q4 (w' := w') (by simp only [addr_add, Nat.add_assoc] at g1 ⊢; exact g1)
                    refine fin this ?_ g2
                    simp only [VR]
                    exact ⟨L, c', _, e1, rfl, fun _ => rfl, hroom, hcc, he1, he2⟩
                  · simp [Done]
                · rename_i hroom
                  split
                  · rename_i hin
                    have holdl : ∃ ol : Array Value, (Go.Builtin.firstCells n len (.slice (some p) len c')).run P w.drew = .ok ol w.drew ∧ VRC ρ (slice1 cs off (len * n)) ol.toList := by
                      have hrs : rdSl n (.sl b off len cap n ex) m = some (slice1 cs off (len * n)) := by simp [rdSl, hg, hin]
                      have hvs' : VR ρ (.sl b off len cap n ex) (.slice (some p) len c') := by
                        simp only [VR]
                        exact ⟨L, c', p, e1, rfl, hp, hlc, hcc, he1, he2⟩
                      obtain ⟨_, r2, r3⟩ := rdSl_sound (P := P) hm hrs hvs'
                      obtain ⟨ol, r4, r5⟩ := r3 len (Nat.le_refl _)
                      refine ⟨ol, r4 _ rfl, ?_⟩
                      simp only [lenV] at r2
                      rwa [List.take_of_length_le (by omega)] at r5
                    obtain ⟨ol, o1, o2⟩ := holdl
                    have hcc2 : VRC ρ (slice1 cs off (len * n) ++ new) (ol ++ nw).toList := by rw [Array.toList_append]; exact o2.append q5
                    have holl := o2.length
                    simp only [Array.length_toList] at holl
                    have hsl : (slice1 cs off (len * n)).length = len * n := by simp [slice1]; omega
                    cases ex
                    · simp only [cond_false]
                      split
                      · rename_i hgrow
                        obtain ⟨w0, w1, w2, w3⟩ := hgrow
                        subst w2 w3
                        have hown : owns m b := by unfold owns; rw [hg]; simp
                        by_cases hroom' : len + lenV x ≤ c'
                        · have hpp := hp (by omega)
                          subst hpp
                          obtain ⟨arr, ee, fr, a1, a2, a3, a4, a5, a6⟩ := hm.cells e1 hg
                          obtain ⟨a7, a8, a8b⟩ := a4 (by simp)
                          have a9 := a5 rfl
                          subst a7 a9
                          have hend := he2 rfl
                          have hmul : (len + lenV x) * n ≤ c' * n := Nat.mul_le_mul_right n hroom'
                          rw [Nat.add_mul] at hmul
                          obtain ⟨w', arr', b1, b2, b3, b4, b5, b6, b7, b8, b9⟩ := run_storeCells_ex (P := P) L.blk nw.toList (L.base + off + len * n) 0 w arr ee (0, 0) a1 (by simp only [Array.length_toList, hnwl, q2]; omega) (by simp) q5.one
                          have := run_append_room (P := P) (w := w) (ty := o.type) hd hu hn (base := some ⟨L.blk, L.base + off, none⟩) (sLen := len) (sCap := c') q1 hroom' q4 (w' := w') (by simp only [addr_add]; exact b1)
                          refine fin this ?_ (hm.grow (L' := ⟨L.blk, L.base + off, L.endd⟩) e1 hown b7 b8 b9 b5 b6 rfl ?_)
                          · simp only [VR]
                            exact ⟨_, c', _, Rho.ext_same _ _ _, rfl, fun _ => rfl, Nat.le_refl _, hroom', by simp, fun _ => hend⟩
                          · simp only [BR]
                            refine ⟨arr', ee, (0, 0), b2, ?_, ?_, fun _ => ⟨rfl, by rw [b3]; exact a8, by show L.base + off = 0; omega⟩, fun _ => rfl, by simp⟩
                            · rw [b3, List.length_append, hsl, q2]; omega
                            · intro i y hy
                              rw [b4]
                              simp only [Array.length_toList, hnwl, q2, Nat.add_zero]
                              by_cases hi : i < len * n
                              · rw [List.getElem?_append_left (by omega)] at hy
                                rw [if_neg (by omega)]
                                have hy' : cs[off + i]? = some y := by
                                  simpa [slice1, List.getElem?_take, hi] using hy
                                obtain ⟨y', c1, c2, c3⟩ := a3 _ _ hy'
                                exact ⟨y', by rw [← c1]; congr 1; omega, c2.mono (Sub.ext _ hm.fresh), c3⟩
                              · rw [List.getElem?_append_right (by omega), hsl] at hy
                                have hlt := (List.getElem?_eq_some_iff.1 hy).1
                                rw [if_pos (by omega)]
                                obtain ⟨y', c1, c2, c3⟩ := q5.get _ _ hy
                                exact ⟨y', by rw [← c1]; congr 1; omega, c2.mono (Sub.ext _ hm.fresh), c3⟩
                        · obtain ⟨rest, c2, g1, g2, g3⟩ := run_append_new (P := P) (w := w) (ty := o.type) hd hu hn hz hzl hf hby (base := some p) (sLen := len) (sCap := c') q1 (by omega) (by omega) o1 hnew'
                          have hk1 := hm.kill e1 hown
                          have hgd := hk1.trans (hk1.mr.appended hcc2 rest e ((ol ++ nw ++ rest).size) rfl)
                          refine fin g1 ?_ hgd
                          simp only [VR]
                          refine ⟨_, c2, _, Rho.ext_same _ _ _, rfl, fun _ => rfl, Nat.le_refl _, by omega, by simp, fun _ => ?_⟩
                          simp only [Array.size_append, g3, hnwl, q2, Nat.zero_add, holl, hsl]
                          rw [← Nat.add_mul, ← Nat.add_mul]
                          congr 1
                          omega
                      · simp [Done]
                    · simp only [cond_true]
                      have hc1 := he1 rfl
                      subst hc1
                      obtain ⟨rest, c2, g1, g2, g3⟩ := run_append_new (P := P) (w := w) (ty := o.type) hd hu hn hz hzl hf hby (base := some p) (sLen := len) (sCap := c') q1 (by omega) (by omega) o1 hnew'
                      have hgd := hm.appended hcc2 rest e ((ol ++ nw ++ rest).size) rfl
                      refine fin g1 ?_ hgd
                      simp only [VR]
                      refine ⟨_, c2, _, Rho.ext_same _ _ _, rfl, fun _ => rfl, Nat.le_refl _, by omega, by simp, fun _ => ?_⟩
                      simp only [Array.size_append, g3, hnwl, q2, Nat.zero_add, holl, hsl]
                      rw [← Nat.add_mul, ← Nat.add_mul]
                      congr 1
                      omega
                  · simp [Done]
              | _ => simp [Done]
      · simp [Done]
    | _ => simp [Done]
end
end Mu
