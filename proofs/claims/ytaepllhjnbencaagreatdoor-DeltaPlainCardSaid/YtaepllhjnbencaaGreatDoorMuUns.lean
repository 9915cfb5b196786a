/- Each operation of the small code does what the model's does: unsafe pointers, and strings made of rows of bytes (as strings.Builder makes them). -/
import Derived.Test.YtaepllhjnbencaaGreatDoorMuOps7
import Derived.Lib.UnsafeStr
set_option linter.unusedVariables false
set_option linter.unusedSimpArgs false
namespace Mu
open Go (Value World Addr Program IntKind Sem Result Obj TypeDesc TypeInfo Operand Oper)

section
variable {P : Program} {names : List String} {o : Oper} {a : Go.Act} {ρ : Rho} {m : M} {w : World} (W : Prg) (call : Nat → List V → M → R)

theorem rowAt_more {fits : Nat → Bool} : ∀ (d e c c' off n : Nat), c ≤ c' → Go.rowAt P fits d e c off n = true → Go.rowAt P fits d e c' off n = true
  | 0, e, c, c', off, n, hc, h => by simp [Go.rowAt] at h
  | d + 1, e, c, c', off, n, hc, h => by
    simp only [Go.rowAt] at h ⊢
    split
    · rename_i hs; rw [if_pos hs] at h; cases h
    · rename_i hs
      rw [if_neg hs] at h
      simp only [Bool.or_eq_true, Bool.and_eq_true, decide_eq_true_eq] at h ⊢
      rcases h with ⟨⟨h1, h2⟩, h3⟩ | ⟨h1, h2⟩
      · exact .inl ⟨⟨h1, by omega⟩, h3⟩
      · exact .inr ⟨by omega, h2⟩
theorem liesAt_more : ∀ (d e c c' off u n : Nat), c ≤ c' → Go.liesAt P d e c off u n = true → Go.liesAt P d e c' off u n = true
  | 0, e, c, c', off, u, n, hc, h => by simp [Go.liesAt] at h
  | d + 1, e, c, c', off, u, n, hc, h => by
    simp only [Go.liesAt, Bool.or_eq_true] at h ⊢
    rcases h with h | h
    · exact .inl (rowAt_more _ _ _ _ _ _ hc h)
    · refine .inr ?_
      cases hu : P.underlying u with
      | none => rw [hu] at h; cases h
      | some d' =>
        rw [hu] at h
        cases d' <;> first | (cases h; done) | exact liesAt_more _ _ _ _ _ _ _ hc h

theorem run_viewAt_cells {arr : Array Value} {e b : Nat} {fr : Nat × Nat} (h : w.heap[b]? = some (.cells arr e fr)) : (Go.viewAt b).run P w = .ok none w := by
  have : w.shape? b = some (e, arr.size) := by simp [World.shape?, h]
  simp [Go.viewAt, this]
theorem run_seenAt_cells {arr : Array Value} {e : Nat} {fr : Nat × Nat} (p : Addr) (h : w.heap[p.block]? = some (.cells arr e fr)) : (Go.Conv.seenAt p).run P w = .ok p w := by
  simp only [Go.Conv.seenAt, Sem.run_bind, run_viewAt_cells (P := P) h, Result.andThen_ok]
  rfl

theorem done_toUns (s d : Nat) {e n : Nat} (hs : P.underlying s = some (.pointer e)) (hd : P.underlying d = some .unsafePointer) (hn : sizeT P e = some n) (h0 : n ≠ 0) (x : Operand) (ho : o.op = .convert s d x) {vs : List V}
    (hvs : VRL ρ vs (o.op.operands.toList.map a.eval)) (hm : MR ρ m w) : Done P o a ρ m w (evK W call m .toUns vs) := by
  have hop : o.op.operands = #[x] := by rw [ho]; rfl
  rw [hop] at hvs
  obtain ⟨v, rfl, hv⟩ := hvs.one_inv
  have hrun : ∀ p, a.eval x = .pointer p → (Go.execOp a.eval o).run P w = ((Go.Conv.unsafePointer s d (.pointer p)).run P w).andThen fun v w' => .ok (.value v) w' := by
    intro p hy
    simp only [Go.execOp, ho, hy, Go.convert, Sem.run_bind, Go.run_underlying hs, Go.run_underlying hd, Result.andThen_ok]
    cases (Go.Conv.unsafePointer s d (.pointer p)).run P w <;> rfl
  cases v with
  | pnil =>
    simp only [VR] at hv
    simp only [evK]
    refine Done.value (x := .pointer none) ?_ (by simp only [VR]) hm
    rw [hrun _ hv]
    simp only [Go.Conv.unsafePointer, Sem.run_bind, Go.run_underlying hs, Go.run_underlying hd, Result.andThen_ok]
    rfl
  | ptr b off =>
    have hv2 := hv
    simp only [VR] at hv
    obtain ⟨L, h1, h2⟩ := hv
    simp only [evK]
    cases hg : m.get b with
    | none => simp [Done]
    | some blk =>
      cases blk with
      | cells cs own t =>
        simp only
        split
        · rename_i hlt
          obtain ⟨arr, e', fr, k1, k2, _⟩ := hm.cells h1 hg
          refine Done.value (x := .pointer (some ⟨L.blk, L.base + off, none⟩)) ?_ (h2 ▸ hv2) hm
          rw [hrun _ h2]
          have hsh : w.shape? L.blk = some (e', arr.size) := by simp [World.shape?, k1]
          have hsz : ¬ (n = 0) := h0
          have hge : ¬ (arr.size ≤ L.base + off) := by omega
          simp only [Go.Conv.unsafePointer, Sem.run_bind, Go.run_underlying hs, Go.run_underlying hd, Result.andThen_ok, run_seenAt_cells (P := P) ⟨L.blk, L.base + off, none⟩ k1, Go.cellsIn, Go.run_shape, hsh, Sem.run_pure, run_sizeOf' hn]
          simp [hsz, hge]
        · simp [Done]
      | _ => simp [Done]
  | _ => simp [evK, Done]

theorem done_fromUns (hW : PtrTOk P W) (s d : Nat) {u n : Nat} (hs : P.underlying s = some .unsafePointer) (hd : P.underlying d = some (.pointer u)) (hn : sizeT P u = some n) (h0 : n ≠ 0) (x : Operand) (ho : o.op = .convert s d x) {vs : List V}
    (hvs : VRL ρ vs (o.op.operands.toList.map a.eval)) (hm : MR ρ m w) : Done P o a ρ m w (evK W call m (.fromUns u) vs) := by
  have hop : o.op.operands = #[x] := by rw [ho]; rfl
  rw [hop] at hvs
  obtain ⟨v, rfl, hv⟩ := hvs.one_inv
  have hrun : ∀ p, a.eval x = .pointer p → (Go.execOp a.eval o).run P w = ((Go.Conv.unsafePointer s d (.pointer p)).run P w).andThen fun v w' => .ok (.value v) w' := by
    intro p hy
    simp only [Go.execOp, ho, hy, Go.convert, Sem.run_bind, Go.run_underlying hs, Go.run_underlying hd, Result.andThen_ok]
    cases (Go.Conv.unsafePointer s d (.pointer p)).run P w <;> rfl
  cases v with
  | pnil =>
    simp only [VR] at hv
    simp only [evK]
    refine Done.value (x := .pointer none) ?_ (by simp only [VR]) hm
    rw [hrun _ hv]
    simp only [Go.Conv.unsafePointer, Sem.run_bind, Go.run_underlying hs, Go.run_underlying hd, Result.andThen_ok]
    rfl
  | ptr b off =>
    have hv2 := hv
    simp only [VR] at hv
    obtain ⟨L, h1, h2⟩ := hv
    simp only [evK]
    cases hg : m.get b with
    | none => simp [Done]
    | some blk =>
      cases blk with
      | cells cs own t =>
        simp only
        cases hl : W.lies t off u with
        | none => simp [Done]
        | some sz =>
          simp only
          split
          · rename_i hc
            obtain ⟨hc1, hc2⟩ := hc
            subst hc1
            obtain ⟨l1, l2, l3⟩ := hW.lies t off u sz hl
            obtain ⟨arr, e', fr, k1, k2, k3, k4, _⟩ := hm.cells h1 hg
            obtain ⟨k5, _, k6⟩ := k4 (by simp)
            subst k5
            refine Done.value (x := .pointer (some ⟨L.blk, L.base + off, none⟩)) ?_ (h2 ▸ hv2) hm
            rw [hrun _ h2]
            have hsh : w.shape? L.blk = some (e', arr.size) := by simp [World.shape?, k1]
            have hcnt : 1 ≤ arr.size / P.cellsOf e' := by
              rw [l2]
              exact (Nat.le_div_iff_mul_le l1).2 (by omega)
            have hlies : Go.liesAt P P.depth e' (arr.size / P.cellsOf e') (L.base + off) u 1 = true := by
              rw [k6, Nat.zero_add]
              exact liesAt_more _ _ _ _ _ _ _ hcnt l3
            have hva : (Go.variablesAt ⟨L.blk, L.base + off, none⟩ u 1).run P w = .ok true w := by
              simp only [Go.variablesAt, Sem.run_bind, Go.run_program, Go.run_shape, hsh, Result.andThen_ok, Sem.run_pure, hlies]
            have hsz : ¬ (n = 0) := h0
            simp only [Go.Conv.unsafePointer, Sem.run_bind, Go.run_underlying hs, Go.run_underlying hd, Result.andThen_ok, run_seenAt_cells (P := P) ⟨L.blk, L.base + off, none⟩ k1, hva, run_sizeOf' hn]
            simp
          · simp [Done]
      | _ => simp [Done]
  | _ => simp [evK, Done]

theorem done_sliceData {c : Go.Call} (ho : o.op = .call c) (hb : c.callee = .builtin .unsafeSliceData) {vs : List V}
    (hvs : VRL ρ vs (o.op.operands.toList.map a.eval)) (hm : MR ρ m w) : Done P o a ρ m w (evK W call m .sliceData vs) := by
  rw [builtin_operands ho hb] at hvs
  obtain ⟨cs0, hrun⟩ := run_builtin (P := P) (a := a) (w := w) ho hb
  rcases vs with _ | ⟨v, _ | ⟨u, r⟩⟩
  · simp [evK, Done]
  case cons.cons => simp [evK, Done]
  obtain ⟨x, h1, hv⟩ := hvs.one_v
  rw [arr_one h1] at hrun
  cases v with
  | snil =>
    simp only [VR] at hv
    subst hv
    simp only [evK]
    refine Done.value (x := .pointer none) ?_ (by simp only [VR]) hm
    rw [hrun]; rfl
  | sl b off len cap es ex =>
    simp only [VR] at hv
    obtain ⟨L, c', p, e1, rfl, hp, hlc, hcc, _⟩ := hv
    simp only [evK]
    split
    · rename_i hl
      have hc0 : c' ≠ 0 := by omega
      refine Done.value (x := .pointer (some p)) ?_ (by simp only [VR]; exact ⟨L, e1, by rw [hp hc0]⟩) hm
      rw [hrun]
      simp only [Go.builtin, Sem.run_bind, Go.Lib.run_unsafeSliceData_row w _ _ p len c' hc0, Result.andThen_ok, Sem.run_pure]
    · simp [Done]
  | _ => simp [evK, Done]

theorem strOf_get : ∀ {l : List V} {s : List Nat}, strOf l = some s → l.length = s.length ∧ ∀ (j n : Nat), s[j]? = some n → n < 256 ∧ l[j]? = some (.int .u8 (.ofNat n))
  | [], s, h => by simp [strOf] at h; subst h; simp
  | v :: r, s, h => by
    unfold strOf at h
    split at h
    · rename_i h'; cases h'
    · rename_i n r' he
      injection he with h1 h2
      subst h1 h2
      split at h
      · rename_i hn
        cases hr : strOf r with
        | none => simp [hr] at h
        | some t =>
          simp only [hr, Option.map_some, Option.some.injEq] at h
          subst h
          obtain ⟨h3, h4⟩ := strOf_get hr
          refine ⟨by simp [h3], fun j k hk => ?_⟩
          cases j with
          | zero =>
            simp only [List.getElem?_cons_zero, Option.some.injEq] at hk ⊢
            subst hk
            refine ⟨by omega, ?_⟩
            congr 1
            simp only [Int.ofNat_eq_natCast]
            omega
          | succ j => simp only [List.getElem?_cons_succ] at hk ⊢; exact h4 j k hk
      · cases h
    · cases h

theorem done_unsStr {c : Go.Call} {t u t2 : Nat} (hd : P.underlying t = some (.pointer u)) (hn : sizeT P u = some 1) (hcu : P.cellsOf u = 1) (ho : o.op = .call c) (hb : c.callee = .builtin .unsafeString) (ht : c.argTypes.toList = [t, t2]) {vs : List V}
    (hvs : VRL ρ vs (o.op.operands.toList.map a.eval)) (hm : MR ρ m w) : Done P o a ρ m w (evK W call m (.unsStr u) vs) := by
  rw [builtin_operands ho hb] at hvs
  obtain ⟨cs0, hrun⟩ := run_builtin (P := P) (a := a) (w := w) ho hb
  rcases vs with _ | ⟨v, _ | ⟨k, _ | ⟨y, r⟩⟩⟩
  · simp [evK, Done]
  · simp [evK, Done]
  case cons.cons.cons => simp [evK, Done]
  obtain ⟨x, y, h1, hv, hk⟩ := hvs.two_v
  rw [arr_two h1, arr_two ht] at hrun
  simp only [evK]
  cases hnk : natOf k with
  | none => simp [Done]
  | some n =>
    have hki : ∃ kd, y = .int kd (n : Int) := by
      cases k with
      | int kd z =>
        simp only [natOf] at hnk
        split at hnk
        · cases hnk
        · injection hnk with hnk
          refine ⟨kd, (vr_int hk).trans ?_⟩
          congr 1
          omega
      | _ => simp [natOf] at hnk
    obtain ⟨kd, rfl⟩ := hki
    have hasi : (Go.asInt (.int kd (n : Int))).run P w = .ok (n : Int) w := rfl
    cases n with
    | zero =>
      have key : ∀ p, x = .pointer p → (Go.execOp a.eval o).run P w = .ok (.value (.string .empty)) w := by
        rintro p rfl
        rw [hrun]
        have hmax : IntKind.i64.max = 9223372036854775807 := rfl
        have h2 : (Go.Builtin.unsafeString_ #[t, t2] o.type #[.pointer p, .int kd ((0 : Nat) : Int)]).run P w = .ok (.string .empty) w := by
          cases p with
          | none =>
            have hdef : Go.Builtin.unsafeString_ #[t, t2] o.type #[.pointer none, .int kd ((0 : Nat) : Int)] =
                (do
                  let n ← Go.asInt (.int kd ((0 : Nat) : Int))
                  if n < 0 then Go.runtimePanic (.error "unsafe.String: len out of range")
                  if n > IntKind.i64.max then Go.unsupported (.unsafePointer "String: a length above the largest int")
                  if n = 0 then pure (.string .empty)
                  else Go.runtimePanic (.error "unsafe.String: ptr is nil and len is not zero")) := rfl
            rw [hdef]
            simp [Go.asInt, Go.asIntOf, hmax]
          | some q =>
            have hdef : Go.Builtin.unsafeString_ #[t, t2] o.type #[.pointer (some q), .int kd ((0 : Nat) : Int)] =
                (do
                  let n ← Go.asInt (.int kd ((0 : Nat) : Int))
                  if n < 0 then Go.runtimePanic (.error "unsafe.String: len out of range")
                  if n > IntKind.i64.max then Go.unsupported (.unsafePointer "String: a length above the largest int")
                  if n = 0 then pure (.string .empty)
                  else if ← Go.variablesAt q (← Go.elemOf t) n.toNat then do
                    let s ← Go.loadBytes q .empty n.toNat
                    Go.freeze q n.toNat
                    pure (.string s)
                  else Go.unsupported (.unsafePointer "String: not so many bytes at ptr")) := rfl
            rw [hdef]
            simp [Go.asInt, Go.asIntOf, hmax]
        simp only [Go.builtin, Sem.run_bind, h2, Result.andThen_ok, Sem.run_pure]
      cases v with
      | pnil => simp only [VR] at hv; exact Done.value (key _ hv) (by simp only [VR]; exact ⟨_, rfl, rfl⟩) hm
      | ptr b off => simp only [VR] at hv; obtain ⟨L, _, hv⟩ := hv; exact Done.value (key _ hv) (by simp only [VR]; exact ⟨_, rfl, rfl⟩) hm
      | _ => simp [Done]
    | succ n =>
      simp only
      cases v with
      | ptr b off =>
        simp only [VR] at hv
        obtain ⟨L, e1, rfl⟩ := hv
        simp only
        cases hg : m.get b with
        | none => simp [Done]
        | some blk =>
          cases blk with
          | cells cs own tt =>
            simp only
            split
            · rename_i hcond
              obtain ⟨c1, c2, c3, c4⟩ := hcond
              subst c1 c2
              cases hst : strOf (slice1 cs off (n + 1)) with
              | none => simp [Done]
              | some s =>
                simp only
                obtain ⟨arr, e', fr, k1, k2, k3, k4, k5, k6⟩ := hm.cells e1 hg
                obtain ⟨k7, k8, k9⟩ := k4 (by simp)
                subst k7
                have hfr := k5 rfl
                subst hfr
                obtain ⟨s1, s2⟩ := strOf_get hst
                have hslen : s.length = n + 1 := by rw [← s1]; simp [slice1]; omega
                let l8 : List UInt8 := s.map UInt8.ofNat
                have hl8 : l8.length = n + 1 := by simp [l8, hslen]
                have hcell : ∀ j x, l8[j]? = some x → w.cell? ((⟨L.blk, L.base + off, none⟩ : Addr).add j) = some (.int .u8 x.toNat) := by
                  intro j x hx
                  simp only [l8, List.getElem?_map, Option.map_eq_some_iff] at hx
                  obtain ⟨z, hz, rfl⟩ := hx
                  obtain ⟨z1, z2⟩ := s2 j z hz
                  have hj : j < n + 1 := by rw [← hslen]; exact (List.getElem?_eq_some_iff.1 hz).1
                  have hcs : cs[off + j]? = some (.int .u8 (.ofNat z)) := by
                    simpa [slice1, List.getElem?_take, hj] using z2
                  obtain ⟨x', g1, g2, _⟩ := hm.cell e1 hg hcs
                  rw [addr_add, Nat.add_assoc, g1]
                  have := vr_int g2
                  rw [this]
                  congr 2
                  simp only [UInt8.toNat_ofNat', Int.ofNat_eq_natCast]
                  omega
                have hlb := Go.Lib.run_loadBytes (P := P) w l8 ⟨L.blk, L.base + off, none⟩ .empty hcell
                rw [hl8] at hlb
                have hsh : w.shape? L.blk = some (e', arr.size) := by simp [World.shape?, k1]
                have hlies : Go.liesAt P P.depth e' (arr.size / P.cellsOf e') (L.base + off) e' (n + 1) = true := by
                  rw [hcu, Nat.div_one]
                  have hd2 : P.depth = (2 * (P.types.size + Go.Made.depth) + 1) + 1 := rfl
                  rw [hd2]
                  simp only [Go.liesAt, Bool.or_eq_true]
                  left
                  rw [hd2]
                  have hle : L.base + off + (n + 1) ≤ arr.size := by omega
                  simp [Go.rowAt, hcu, hle, Go.sameLayout, Nat.mod_one]
                have hva : (Go.variablesAt ⟨L.blk, L.base + off, none⟩ e' (n + 1)).run P w = .ok true w := by
                  simp only [Go.variablesAt, Sem.run_bind, Go.run_program, Go.run_shape, hsh, Result.andThen_ok, Sem.run_pure, hlies]
                have hel : (Go.elemOf t).run P w = .ok e' w := by simp [Go.elemOf, Go.run_underlying hd]
                have hsz : cs.length ≤ arr.size := by omega
                let w' : World := w.freeze ⟨L.blk, L.base + off, none⟩ (n + 1)
                obtain ⟨f, hw', fr', hf⟩ : ∃ f : Obj → Obj, w' = { w with heap := w.heap.modify L.blk f } ∧ ∃ fr', f (.cells arr e' (0, 0)) = .cells arr e' fr' := ⟨_, if_neg (by omega), _, rfl⟩
                by_cases hbig : (IntKind.max .i64 : Int) < ((n + 1 : Nat) : Int)
                · exfalso
                  have : (IntKind.max .i64 : Int) = 9223372036854775807 := by decide
                  rw [this] at hbig
                  omega
                · have hrun2 : (Go.Builtin.unsafeString_ #[t, t2] o.type #[.pointer (some ⟨L.blk, L.base + off, none⟩), .int kd ((n + 1 : Nat) : Int)]).run P w = .ok (.string ⟨l8.toArray⟩) w' := by
                    have hdef : Go.Builtin.unsafeString_ #[t, t2] o.type #[.pointer (some ⟨L.blk, L.base + off, none⟩), .int kd ((n + 1 : Nat) : Int)] =
                        (do
                          let n ← Go.asInt (.int kd ((n + 1 : Nat) : Int))
                          if n < 0 then Go.runtimePanic (.error "unsafe.String: len out of range")
                          if n > IntKind.i64.max then Go.unsupported (.unsafePointer "String: a length above the largest int")
                          if n = 0 then pure (.string .empty)
                          else if ← Go.variablesAt ⟨L.blk, L.base + off, none⟩ (← Go.elemOf t) n.toNat then do
                            let s ← Go.loadBytes ⟨L.blk, L.base + off, none⟩ .empty n.toNat
                            Go.freeze ⟨L.blk, L.base + off, none⟩ n.toNat
                            pure (.string s)
                          else Go.unsupported (.unsafePointer "String: not so many bytes at ptr")) := rfl
                    rw [hdef]
                    have hneg : ¬ ((n : Int) + 1 < 0) := by omega
                    have hne0 : ¬ ((n : Int) + 1 = 0) := by omega
                    have htn : ((n : Int) + 1).toNat = n + 1 := by omega
                    have hmx : ¬ (IntKind.i64.max < (n : Int) + 1) := by simpa using hbig
                    simp only [Go.asInt, Go.asIntOf, Sem.run_bind, Sem.run_pure, Result.andThen_ok, Int.natCast_add, Int.natCast_one, hneg, hmx, hne0, if_false, gt_iff_lt, htn, hel, hva, if_true, hlb, Go.run_freeze]
                    have he0 : ByteArray.empty.data ++ l8.toArray = l8.toArray := by
                      show (#[] : Array UInt8) ++ l8.toArray = l8.toArray
                      simp
                    rw [he0]
                  refine ⟨.string ⟨l8.toArray⟩, w', ρ, .inl (by rw [hrun]; simp only [Go.builtin, Sem.run_bind, hrun2, Result.andThen_ok, Sem.run_pure]), ?_, ?_⟩
                  · simp only [VR]
                    refine ⟨_, rfl, ?_⟩
                    show (s.map UInt8.ofNat).map UInt8.toNat = s
                    rw [List.map_map]
                    refine (List.map_congr_left fun z hz => ?_).trans (List.map_id s)
                    obtain ⟨j, hj⟩ := List.getElem?_of_mem hz
                    have := (s2 j z hj).1
                    simp only [Function.comp, UInt8.toNat_ofNat', id]
                    omega
                  · have hlt := hm.size b L e1
                    have hget : w'.heap[L.blk]? = some (.cells arr e' fr') := by
                      rw [hw']
                      simp only [Array.getElem?_modify, if_true, k1, Option.map_some, hf]
                    refine hm.write e1 (by unfold owns; rw [hg]; simp) ?_ (by rw [hw']) (by rw [hw']) (by rw [hw']) (by rw [hw']; simp) (fun r hr => by rw [hw']; simp only [Array.getElem?_modify]; rw [if_neg (Ne.symm hr)])
                    simp only [BR]
                    exact ⟨arr, e', _, hget, k2, k3, fun h => absurd rfl h, fun h => (by cases h), fun h => (by cases h)⟩
            · simp [Done]
          | _ => simp [Done]
      | _ => simp [Done]
end
end Mu
