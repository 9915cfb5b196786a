/- Steps in the direct style: what is seen of a piece of code once its first operation's answer is told. -/
import Derived.Test.YtaepllhjnbencaaGreatDoorMuDir
set_option linter.unusedVariables false
set_option linter.unusedSimpArgs false
namespace Mu
def want (v : V) (b : Bool) : Option Bool := match v with | .bool c => some (c == b) | .tup [] => some false | _ => none
inductive Rv | tmp (v : V) | cell (v : V) (agg : Bool) (n : Nat)
def resV : List Rv → M → Option (List V)
  | [], m => some []
  | .tmp v :: r, m => (resV r m).map (v :: ·)
  | .cell v agg n :: r, m => match v with
    | .ptr b o => match loadAt agg n b o m with
      | .ok u _ => (resV r m).map (u :: ·)
      | _ => none
    | _ => none

/-! ### Memories -/
/-- a later memory, in which all that was there is as it was -/
structure Ext (m m' : M) : Prop where
  n : m.n ≤ m'.n
  get : ∀ b, b < m.n → m'.get b = m.get b
theorem Ext.refl (m : M) : Ext m m := ⟨Nat.le_refl _, fun _ _ => rfl⟩
theorem Ext.trans {a b c : M} (h : Ext a b) (k : Ext b c) : Ext a c := ⟨Nat.le_trans h.n k.n, fun x hx => (k.get x (Nat.lt_of_lt_of_le hx h.n)).trans (h.get x hx)⟩
theorem Ext.new (m : M) (x : Blk) : Ext m (m.new x) := ⟨Nat.le_succ _, fun b hb => M.get_new_ne _ _ _ (by omega)⟩
theorem Ext.push {a m : M} (h : Ext a m) (x : Blk) : Ext a (m.new x) := h.trans (Ext.new m x)
/-- what came in new may be written -/
theorem Ext.put {a m : M} (h : Ext a m) {b : Nat} (hb : a.n ≤ b) (x : Blk) : Ext a (m.put b x) := ⟨h.n, fun c hc => (M.get_put_ne _ _ _ _ (by omega)).trans (h.get c hc)⟩
theorem Ext.some {m m' : M} (h : Ext m m') {b : Nat} {x : Blk} (hb : b < m.n) (hx : m.get b = some x) : m'.get b = some x := (h.get b hb).trans hx

/-! ### Steps -/
section
variable {Q : X → Prop}
theorem t_ok {r : R} {v : V} {m : M} {f : V → M → X} (h : r = .ok v m) (hq : Q (f v m)) : Q (r.to f) := by subst h; exact hq
theorem t_pan {r : R} {v : V} {m : M} {f : V → M → X} (h : r = .pan v m) (hq : Q (.pan v m)) : Q (r.to f) := by subst h; exact hq
theorem g_yes {g : Option Bool} {r : R} {m m' : M} {v : V} {f : V → M → X} (hg : g = some true) (h : r = .ok v m') (hq : Q (f v m')) : Q (guarded g r m f) := by subst hg h; exact hq
theorem g_no {g : Option Bool} {r : R} {m : M} {f : V → M → X} (hg : g = some false) (hq : Q (f (.tup []) m)) : Q (guarded g r m f) := by subst hg; exact hq
theorem p_yes {g : Option Bool} {r : R} {m : M} {v : V} {f : V → X} (hg : g = some true) (h : r = .ok v m) (hq : Q (f v)) : Q (pureD g r f) := by subst hg h; exact hq
theorem p_no {g : Option Bool} {r : R} {f : V → X} (hg : g = some false) (hq : Q (f (.tup []))) : Q (pureD g r f) := by subst hg; exact hq
theorem r_yes {g : Option Bool} {r : R} {m : M} {v : V} {c : V → Bool} {ent : V → Pend} {pend : List Pend} {f : V → List Pend → X} (hg : g = some true) (h : r = .ok v m) (hc : c v = true) (hq : Q (f v (ent v :: pend))) : Q (readD g r c ent pend f) := by
  subst hg h
  simp only [readD, gd, R.sure, hc, ifX]
  exact hq
theorem r_no {g : Option Bool} {r : R} {c : V → Bool} {ent : V → Pend} {pend : List Pend} {f : V → List Pend → X} (hg : g = some false) (hq : Q (f (.tup []) pend)) : Q (readD g r c ent pend f) := by subst hg; exact hq
theorem e_yes {c : Bool} {g : Option Bool} {r : R} {m m' : M} {v : V} {f : V → M → X} (hg : g = some true) (hc : c = true) (h : r = .ok v m') (hq : Q (f v m')) : Q (effD c g r m f) := by subst hg hc h; exact hq
theorem e_no {c : Bool} {g : Option Bool} {r : R} {m : M} {f : V → M → X} (hg : g = some false) (hc : c = true) (hq : Q (f (.tup []) m)) : Q (effD c g r m f) := by subst hg hc; exact hq
theorem a_yes {g : Option Bool} {t : Nat} {cs : List V} {m : M} {hi : Nat} {pend : List Pend} {f : V → M → List Pend → X} (hg : g = some true) (hq : Q (f (.ptr m.n 0) (m.new (.cells cs .rw t)) (.bl m.n cs t hi :: pend))) : Q (allocD g (.alloc t cs) [] m hi pend f) := by subst hg; exact hq
theorem a_no {g : Option Bool} {k : Kind} {vs : List V} {m : M} {hi : Nat} {pend : List Pend} {f : V → M → List Pend → X} (hg : g = some false) (hq : Q (f (.tup []) m pend)) : Q (allocD g k vs m hi pend f) := by subst hg; exact hq
theorem x_if {c : Bool} {x : X} (hc : c = true) (hq : Q x) : Q (ifX c x) := by subst hc; exact hq
theorem c_yes {a b : X} (hq : Q a) : Q (cnd (.bool true) a b) := hq
theorem c_no {a b : X} (hq : Q b) : Q (cnd (.bool false) a b) := hq
theorem c_b {c : Bool} {a b : X} (hq : Q (if c then a else b)) : Q (cnd (.bool c) a b) := by cases c <;> exact hq

theorem t1 {v : V} {r : List V} {k : V → List V → X} (hq : Q (k v r)) : Q (take1 (v :: r) k) := hq
theorem ret_of {rs : Option (List V)} {l : List V} {m : M} (h : rs = some l) (hq : Q (.ret l m)) : Q (retX rs m) := by subst h; exact hq

/-! ### Blocks and loops -/
@[irreducible] def InBlk (Q : X → Prop) (id : Nat) (keep : List P) (K : List V → M → X) (x : X) : Prop := Q (blkF x id keep K)
theorem blk {r : X} {id : Nat} {keep : List P} {K : List V → M → X} (h : InBlk Q id keep K r) : Q (blkF r id keep K) := by unfold InBlk at h; exact h
theorem b_norm {vs : List V} {m : M} {id : Nat} {keep : List P} {K : List V → M → X} (h : Q (K vs m)) : InBlk Q id keep K (.norm vs m) := by unfold InBlk; exact h
theorem b_exit {vs : List V} {m : M} {id : Nat} {keep : List P} {K : List V → M → X} (h : Q (K vs m)) : InBlk Q id keep K (.exit id keep vs m) := by
  unfold InBlk
  simp only [blkF, if_true, sameP_self]
  exact h
theorem b_out {vs : List V} {m : M} {i id : Nat} {ks keep : List P} {K : List V → M → X} (hi : i ≠ id) (h : Q (.exit i ks vs m)) : InBlk Q id keep K (.exit i ks vs m) := by
  unfold InBlk
  simp only [blkF, if_neg hi]
  exact h
theorem b_ret {vs : List V} {m : M} {id : Nat} {keep : List P} {K : List V → M → X} (h : Q (.ret vs m)) : InBlk Q id keep K (.ret vs m) := by unfold InBlk; exact h
theorem b_pan {v : V} {m : M} {id : Nat} {keep : List P} {K : List V → M → X} (h : Q (.pan v m)) : InBlk Q id keep K (.pan v m) := by unfold InBlk; exact h
@[irreducible] def InJoin (Q : X → Prop) (K : List V → M → X) (x : X) : Prop := Q (joinF x K)
theorem join {r : X} {K : List V → M → X} (h : InJoin Q K r) : Q (joinF r K) := by unfold InJoin at h; exact h
theorem j_norm {vs : List V} {m : M} {K : List V → M → X} (h : Q (K vs m)) : InJoin Q K (.norm vs m) := by unfold InJoin; exact h
theorem j_ret {vs : List V} {m : M} {K : List V → M → X} (h : Q (.ret vs m)) : InJoin Q K (.ret vs m) := by unfold InJoin; exact h
theorem j_exit {i : Nat} {ks : List P} {vs : List V} {m : M} {K : List V → M → X} (h : Q (.exit i ks vs m)) : InJoin Q K (.exit i ks vs m) := by unfold InJoin; exact h
theorem j_pan {v : V} {m : M} {K : List V → M → X} (h : Q (.pan v m)) : InJoin Q K (.pan v m) := by unfold InJoin; exact h
@[irreducible] def InLoop (Q : X → Prop) (B : List V → M → X) (n : Nat) (x : X) : Prop := Q (match x with | .norm vs m => loopF B n vs m | x => x)
theorem loop1 {B : List V → M → X} {n : Nat} {vs : List V} {m : M} (h : InLoop Q B n (B vs m)) : Q (loopF B (n + 1) vs m) := by
  unfold InLoop at h
  simp only [loopF]
  exact h
theorem l_norm {B : List V → M → X} {n : Nat} {vs : List V} {m : M} (h : Q (loopF B n vs m)) : InLoop Q B n (.norm vs m) := by unfold InLoop; exact h
theorem l_exit {B : List V → M → X} {n i : Nat} {ks : List P} {vs : List V} {m : M} (h : Q (.exit i ks vs m)) : InLoop Q B n (.exit i ks vs m) := by unfold InLoop; exact h
theorem l_ret {B : List V → M → X} {n : Nat} {vs : List V} {m : M} (h : Q (.ret vs m)) : InLoop Q B n (.ret vs m) := by unfold InLoop; exact h
theorem l_pan {B : List V → M → X} {n : Nat} {v : V} {m : M} (h : Q (.pan v m)) : InLoop Q B n (.pan v m) := by unfold InLoop; exact h
end

theorem resV_tmp {v : V} {r : List Rv} {l : List V} {m : M} (h : resV r m = some l) : resV (.tmp v :: r) m = some (v :: l) := by simp [resV, h]
theorem resV_cell {agg : Bool} {n b o t : Nat} {own : Own} {cs : List V} {u : V} {r : List Rv} {l : List V} {m : M} (hm : m.get b = some (.cells cs own t)) (hp : partV agg o n cs = some u) (h : resV r m = some l) : resV (.cell (.ptr b o) agg n :: r) m = some (u :: l) := by
  simp [resV, loadAt, hm, hp, opt, h]
theorem resV_nil {m : M} : resV [] m = some [] := rfl
/-- it returns these values, in a later memory of which that is so -/
def Rets (l : List V) (T : M → Prop) (x : X) : Prop := ∃ m', x = .ret l m' ∧ T m'
theorem Rets.mk {l : List V} {T : M → Prop} {m : M} (h : T m) : Rets l T (.ret l m) := ⟨m, rfl, h⟩
theorem call_of {W : Prg} {n f : Nat} {fn : IFn} {args : List V} {m : M} {x : X} {l : List V} {T : M → Prop} (hp : W.prims f = none) (hf : W.fns.get (key f) = some fn) (hn : args.length = fn.np)
    (h : exec2 W (callF W n) n fn.body (mkEnv args 0 .nil) m (fun e m => retX (results e m fn.rs) m) = x) (hx : Rets l T x) : ∃ m', callF W (n + 1) f args m = .ok (tupled l) m' ∧ T m' := by
  obtain ⟨m', rfl, ht⟩ := hx
  exact ⟨m', callF_dir hp hf hn h rfl (by intro h; cases h), ht⟩

/-! ### Answers of operations -/
section
variable {W : Prg} {call : Nat → List V → M → R} {m m' : M}
theorem k_load {agg : Bool} {n b o t : Nat} {cs : List V} {own : Own} {v : V} (hm : m.get b = some (.cells cs own t)) (hp : partV agg o n cs = some v) : evK W call m (.load agg n) [.ptr b o] = .ok v m := by
  simp only [evK, loadAt, hm, hp, opt]
theorem k_store {n b o t : Nat} {x : V} {cs l : List V} {own : Own} (hm : m.get b = some (.cells cs own t)) (hw : canWrite own = true) (hl : cellsOf x = some l) (hn : l.length = n) (ho : o + n ≤ cs.length) : evK W call m (.store n) [.ptr b o, x] = .ok (.tup []) (m.put b (.cells (splice cs o l) own t)) := by
  simp only [evK, storeAt, hm, hl]
  rw [if_pos ⟨hw, hn, ho⟩]
theorem k_put {n b o t : Nat} {x : V} {cs l cs' : List V} {own : Own} (hm : m.get b = some (.cells cs own t)) (hw : canWrite own = true) (hl : cellsOf x = some l) (hn : l.length = n) (ho : o + n ≤ cs.length) (hs : splice cs o l = cs') : evK W call m (.store n) [.ptr b o, x] = .ok (.tup []) (m.put b (.cells cs' own t)) := by
  subst hs
  exact k_store hm hw hl hn ho
theorem k_call {f : Nat} {args : List V} {r : R} (h : call f args m = r) : evK W call m .call (.fn f [] [] :: args) = r := by
  show call f ([] ++ (args ++ [])) m = r
  rw [List.append_nil, List.nil_append]
  exact h
theorem k_callc {f : Nat} {first cap args : List V} {r : R} (h : call f (first ++ (args ++ cap)) m = r) : evK W call m .call (.fn f first cap :: args) = r := h
theorem k_invoke {t name b o f off : Nat} {args : List V} {r : R} (hw : W.meth t name = some (f, off)) (h : call f (.ptr b (o + off) :: args) m = r) : evK W call m (.invoke name) (.iface t (.ptr b o) :: args) = r := by
  simp only [evK, hw]
  exact h
theorem k_eql {d : EqD} {neg b : Bool} {x y : V} (h : evEq W.ptrT d x y m = some b) : evK W call m (.eql d neg) [x, y] = .ok (.bool (xor b neg)) m := by
  simp only [evK, h]
theorem k_lookup {sk : Bool} {zero : V} {b : Nat} {k : V} {es : List (V × V)} {v : Option V} (hm : m.get b = some (.map es)) (hk : isKey sk k = true) (hf : findK k es = some v) : evK W call m (.lookup sk zero false) [.map b, k] = .ok (v.getD zero) m := by
  simp only [evK, hm, if_pos hk, hf]
  cases v <;> rfl
theorem k_lookup2 {sk : Bool} {zero : V} {b : Nat} {k : V} {es : List (V × V)} {v : Option V} (hm : m.get b = some (.map es)) (hk : isKey sk k = true) (hf : findK k es = some v) : evK W call m (.lookup sk zero true) [.map b, k] = .ok (.tup [v.getD zero, .bool v.isSome]) m := by
  simp only [evK, hm, if_pos hk, hf]
  cases v <;> rfl
theorem k_mapUpdate {sk : Bool} {b : Nat} {k v : V} {es es' : List (V × V)} (hm : m.get b = some (.map es)) (hk : isKey sk k = true) (hf : setK k v es = some es') : evK W call m (.mapUpdate sk) [.map b, k, v] = .ok (.tup []) (m.put b (.map es')) := by
  simp only [evK, hm, if_pos hk, hf]
theorem k_delete {sk : Bool} {b : Nat} {k : V} {es es' : List (V × V)} (hm : m.get b = some (.map es)) (hk : isKey sk k = true) (hf : delK k es = some es') : evK W call m (.delete sk) [.map b, k] = .ok (.tup []) (m.put b (.map es')) := by
  simp only [evK, hm, if_pos hk, hf]
theorem k_lenM {b : Nat} {es : List (V × V)} (hm : m.get b = some (.map es)) : evK W call m .lenM [.map b] = .ok (.int .i64 (Int.ofNat es.length)) m := by
  simp only [evK, hm]
theorem k_idx {es b o len cap : Nat} {ex : Bool} {i : V} {j : Nat} (hi : natOf i = some j) (hj : j < len) : evK W call m (.idxSlice es) [.sl b o len cap es ex, i] = .ok (.ptr b (o + j * es)) m := by
  simp only [evK, hi]
  rw [if_pos ⟨trivial, hj⟩]
theorem k_idxArr {es len b o : Nat} {i : V} {j : Nat} (hi : natOf i = some j) (hj : j < len) : evK W call m (.idxArr es len) [.ptr b o, i] = .ok (.ptr b (o + j * es)) m := by
  simp only [evK, hi]
  rw [if_pos hj]
theorem natOf_ofNat (k : Go.IntKind) (n : Nat) : natOf (.int k (.ofNat n)) = some n := by
  show (if Int.ofNat n < 0 then none else some (Int.ofNat n).toNat) = some n
  rw [if_neg (by have := Int.natCast_nonneg n; simp only [Int.ofNat_eq_natCast]; omega)]
  rfl
theorem callF_prim {W : Prg} {n f : Nat} {p : List V → M → R} {args : List V} {m : M} (h : W.prims f = some p) : callF W (n + 1) f args m = p args m := by simp only [callF, h]
theorem k_box {t n : Nat} {x : V} {l : List V} (hl : cellsOf x = some l) (hn : l.length = n) : evK W call m (.box t n) [x] = .ok (.ptr m.n 0) (m.new (.cells l .rw t)) := by
  simp only [evK, hl, if_pos hn]
end

section
variable {Q : X → Prop} {W : Prg} {call : Nat → List V → M → R}
/-- calls, of whose memory something is known -/
theorem t_call {f : Nat} {args : List V} {m : M} {v : V} {F : V → M → X} {T : M → Prop} (hc : ∃ m', call f args m = .ok v m' ∧ T m') (hq : ∀ m', T m' → Q (F v m')) : Q ((evK W call m .call (.fn f [] [] :: args)).to F) := by
  obtain ⟨m', h1, h2⟩ := hc
  exact t_ok (k_call h1) (hq m' h2)
theorem g_call {g : Option Bool} {f : Nat} {args : List V} {m : M} {v : V} {F : V → M → X} {T : M → Prop} (hg : g = some true) (hc : ∃ m', call f args m = .ok v m' ∧ T m') (hq : ∀ m', T m' → Q (F v m')) : Q (guarded g (evK W call m .call (.fn f [] [] :: args)) m F) := by
  obtain ⟨m', h1, h2⟩ := hc
  exact g_yes hg (k_call h1) (hq m' h2)
theorem e_call {c : Bool} {g : Option Bool} {f : Nat} {args : List V} {m : M} {v : V} {F : V → M → X} {T : M → Prop} (hg : g = some true) (hp : c = true) (hc : ∃ m', call f args m = .ok v m' ∧ T m') (hq : ∀ m', T m' → Q (F v m')) : Q (effD c g (evK W call m .call (.fn f [] [] :: args)) m F) := by
  obtain ⟨m', h1, h2⟩ := hc
  exact e_yes hg hp (k_call h1) (hq m' h2)
end

/-! ### What has to be seen again in a region without an order -/
mutual
def V.clean : V → Bool
  | .junk => false
  | .fn _ a c => V.cleanL a && V.cleanL c
  | .iface _ v => v.clean
  | .agg a => V.cleanL a
  | .tup a => V.cleanL a
  | _ => true
def V.cleanL : List V → Bool
  | [] => true
  | a :: x => a.clean && V.cleanL x
end
mutual
theorem beq_same : ∀ {v : V}, v.clean = true → V.beq v v = true
  | .junk, h => by simp [V.clean] at h
  | .bool b, _ => by simp [V.beq]
  | .int _ _, _ => by simp [V.beq]
  | .str _, _ => by simp [V.beq]
  | .pnil, _ => by simp [V.beq]
  | .ptr _ _, _ => by simp [V.beq]
  | .snil, _ => by simp [V.beq]
  | .sl .., _ => by simp [V.beq]
  | .mnil, _ => by simp [V.beq]
  | .map _, _ => by simp [V.beq]
  | .fn f a c, h => by
    simp only [V.clean, Bool.and_eq_true] at h
    simp [V.beq, beqL_same h.1, beqL_same h.2]
  | .fnil, _ => by simp [V.beq]
  | .iface _ v, h => by
    simp only [V.clean] at h
    simp [V.beq, beq_same h]
  | .inil, _ => by simp [V.beq]
  | .agg a, h => by
    simp only [V.clean] at h
    simp [V.beq, beqL_same h]
  | .tup a, h => by
    simp only [V.clean] at h
    simp [V.beq, beqL_same h]
theorem beqL_same : ∀ {l : List V}, V.cleanL l = true → V.beqL l l = true
  | [], _ => by simp [V.beqL]
  | a :: x, h => by
    simp only [V.cleanL, Bool.and_eq_true] at h
    simp [V.beqL, beq_same h.1, beqL_same h.2]
end
section
variable {W : Prg} {call : Nat → List V → M → R} {m m1 : M}
theorem again_is {kd : Kind} {vs : List V} {v : V} (hv : evK W call m kd vs = .ok v m1) (hc : v.clean = true) : again W call m kd vs v = true := by
  simp only [again, hv, beq_same hc]
theorem cp_nil {cur : Nat} : chkPend W call m cur [] = true := rfl
theorem cp_late {cur : Nat} {kd : Kind} {vs : List V} {v : V} {hi : Nat} {r : List Pend} (h : Nat.blt hi cur = true) (hr : chkPend W call m cur r = true) : chkPend W call m cur (.rd kd vs v hi :: r) = true := by
  simp only [chkPend, chk1, h, hr, Bool.true_or, Bool.true_and]
theorem cp_rd {cur : Nat} {kd : Kind} {vs : List V} {v : V} {hi : Nat} {r : List Pend} (hv : evK W call m kd vs = .ok v m1) (hc : v.clean = true) (hr : chkPend W call m cur r = true) : chkPend W call m cur (.rd kd vs v hi :: r) = true := by
  simp only [chkPend, chk1, again_is hv hc, hr, Bool.or_true, Bool.true_and]
theorem cp_bllate {cur b t hi : Nat} {cs : List V} {r : List Pend} (h : Nat.blt hi cur = true) (hr : chkPend W call m cur r = true) : chkPend W call m cur (.bl b cs t hi :: r) = true := by
  simp only [chkPend, chk1, h, hr, Bool.true_or, Bool.true_and]
theorem cp_bl {cur b t hi : Nat} {cs : List V} {r : List Pend} (hb : m.get b = some (.cells cs .rw t)) (hc : V.cleanL cs = true) (hr : chkPend W call m cur r = true) : chkPend W call m cur (.bl b cs t hi :: r) = true := by
  have : Nat.beq t t = true := by simp
  simp only [chkPend, chk1, hb, isBlk, beqL_same hc, this, hr, Bool.and_self, Bool.or_true]
theorem ch_nil {kd : Kind} {vs : List V} {v : V} {lo : Nat} : chkHist W call kd vs v lo [] = true := rfl
theorem ch_early {kd : Kind} {vs : List V} {v : V} {lo : Nat} {r : List M} (h : Nat.blt r.length lo = true) : chkHist W call kd vs v lo (m :: r) = true := by
  simp only [chkHist, h, Bool.true_or]
theorem ch_again {kd : Kind} {vs : List V} {v : V} {lo : Nat} {r : List M} (hv : evK W call m kd vs = .ok v m1) (hc : v.clean = true) (hr : chkHist W call kd vs v lo r = true) : chkHist W call kd vs v lo (m :: r) = true := by
  simp only [chkHist, again_is hv hc, hr, Bool.and_true, Bool.or_true]
end
/-! ### Comparisons that are told -/
section
variable {W : Prg} {call : Nat → List V → M → R} {m : M}
theorem k_lss {k : Go.IntKind} {a b : Int} {c : Bool} (h : decide (a < b) = c) : evK W call m (.bin .lss) [.int k a, .int k b] = .ok (.bool c) m := by
  subst h; simp only [evK, evBin, if_true, binInt]
theorem k_leq {k : Go.IntKind} {a b : Int} {c : Bool} (h : decide (a ≤ b) = c) : evK W call m (.bin .leq) [.int k a, .int k b] = .ok (.bool c) m := by
  subst h; simp only [evK, evBin, if_true, binInt]
theorem k_gtr {k : Go.IntKind} {a b : Int} {c : Bool} (h : decide (b < a) = c) : evK W call m (.bin .gtr) [.int k a, .int k b] = .ok (.bool c) m := by
  subst h; simp only [evK, evBin, if_true, binInt]
theorem k_geq {k : Go.IntKind} {a b : Int} {c : Bool} (h : decide (b ≤ a) = c) : evK W call m (.bin .geq) [.int k a, .int k b] = .ok (.bool c) m := by
  subst h; simp only [evK, evBin, if_true, binInt]
theorem k_eqInt {neg : Bool} {k : Go.IntKind} {a b : Int} {c : Bool} (h : decide (a = b) = c) : evK W call m (.eql (.base .int) neg) [.int k a, .int k b] = .ok (.bool (xor c neg)) m := by
  subst h; simp only [evK, evEq, eqBase, if_true]
theorem k_eqStr {neg : Bool} {a b : List Nat} {c : Bool} (h : decide (a = b) = c) : evK W call m (.eql (.base .str) neg) [.str a, .str b] = .ok (.bool (xor c neg)) m := by
  subst h; simp only [evK, evEq, eqBase]
theorem k_eqBool {neg a b : Bool} : evK W call m (.eql (.base .bool) neg) [.bool a, .bool b] = .ok (.bool (xor (a == b) neg)) m := by
  simp only [evK, evEq, eqBase]
theorem k_add {k : Go.IntKind} {a b c : Int} (h : k.wrap (a + b) = c) : evK W call m (.bin .add) [.int k a, .int k b] = .ok (.int k c) m := by
  subst h; simp only [evK, evBin, if_true, binInt]
theorem k_sub {k : Go.IntKind} {a b c : Int} (h : k.wrap (a - b) = c) : evK W call m (.bin .sub) [.int k a, .int k b] = .ok (.int k c) m := by
  subst h; simp only [evK, evBin, if_true, binInt]
end
theorem wrap_i64 {x : Int} (h1 : -9223372036854775808 ≤ x) (h2 : x < 9223372036854775808) : Go.IntKind.wrap .i64 x = x := by
  simp only [Go.IntKind.wrap, Go.IntKind.signed, Go.IntKind.bits, Bool.true_and, ge_iff_le, decide_eq_true_eq, Nat.add_one_sub_one]
  have e1 : (2 : Int) ^ 64 = 18446744073709551616 := by decide
  have e2 : (2 : Int) ^ (64 - 1) = 9223372036854775808 := by decide
  rw [e1, e2]
  split <;> omega
theorem k_addN {W : Prg} {call : Nat → List V → M → R} {m : M} {a b : Nat} (h : a + b < 9223372036854775808) : evK W call m (.bin .add) [.int .i64 (.ofNat a), .int .i64 (.ofNat b)] = .ok (.int .i64 (.ofNat (a + b))) m :=
  k_add (wrap_i64 (by simp only [Int.ofNat_eq_natCast]; omega) (by simp only [Int.ofNat_eq_natCast]; omega))
end Mu
