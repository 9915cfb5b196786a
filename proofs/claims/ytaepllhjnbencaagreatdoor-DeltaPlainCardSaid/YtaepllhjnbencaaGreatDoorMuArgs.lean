/- Arguments that can be read as data lie in the abstract memory, in blocks that nobody writes. -/
import Derived.Test.YtaepllhjnbencaaGreatDoorMuRep
import Derived.Test.YtaepllhjnbencaaGreatDoorMuFn
import Derived.ChangeArms
import Derived.DataReads
import Derived.DataElems
import GoSem.ClaimJoined
set_option linter.unusedVariables false
set_option linter.unusedSimpArgs false
namespace Mu
open Go (Value World Addr Program IntKind TypeId DataW MemPlace Field Lit)

/-- all blocks only read -/
structure RO (ρ : Rho) (m : M) (I : Fz) (W : World) : Prop where
  mr : MR ρ m W
  fz : Froz I m
  ro : ∀ b, ¬ owns m b
/-- each cell is one cell -/
theorem RO.new {ρ : Rho} {m : M} {I : Fz} {W : World} (h : RO ρ m I W) {arr : Array Value} {e : Nat} {fr : Nat × Nat} {blk base : Nat} (endd : Nat) (hb : W.heap[blk]? = some (.cells arr e fr)) {vs : List V} {xs : List Value}
    (hv : VRC ρ vs xs) (hl : base + vs.length ≤ arr.size) (hx : ∀ i, i < xs.length → arr[base + i]? = xs[i]?) :
    RO (ρ.ext m.n ⟨blk, base, endd⟩) (m.new (.cells vs .ro e)) (I.add m.n vs) W := by
  have hf := h.mr.fresh
  have hs := Sub.ext (ρ := ρ) ⟨blk, base, endd⟩ hf
  have hlt : blk < W.heap.size := (Array.getElem?_eq_some_iff.1 hb).1
  refine ⟨⟨?_, ?_, ?_, ?_⟩, ?_, ?_⟩
  · intro b L hbL
    by_cases he : b = m.n
    · subst he; simp
    · rw [Rho.ext_ne _ _ he] at hbL
      have := h.mr.dom _ _ hbL
      simp only [M.n_new]; omega
  · intro b L hbL x hx'
    by_cases he : b = m.n
    · subst he
      rw [Rho.ext_same] at hbL
      injection hbL with hbL
      subst hbL
      rw [M.get_new_same] at hx'
      injection hx' with hx'
      subst hx'
      simp only [BR]
      refine ⟨arr, e, fr, hb, hl, ?_, fun h => absurd rfl h, ⟨fun h => (by cases h), fun h => (by cases h)⟩⟩
      intro i v hv'
      obtain ⟨x', h1, h2, h3⟩ := hv.get _ _ hv'
      have hlen := hv.length
      have hi : i < xs.length := (List.getElem?_eq_some_iff.1 h1).1
      exact ⟨x', (hx i hi).trans h1, h2.mono hs, h3⟩
    · rw [Rho.ext_ne _ _ he] at hbL
      rw [M.get_new_ne _ _ _ he] at hx'
      exact (h.mr.blk _ _ hbL _ hx').congr hs rfl
  · intro b L b' L' h1 h2 h3
    refine absurd h3 ?_
    unfold owns
    by_cases he : b = m.n
    · subst he; rw [M.get_new_same]; simp
    · rw [M.get_new_ne _ _ _ he]; exact h.ro b
  · intro b L hbL
    by_cases he : b = m.n
    · subst he
      rw [Rho.ext_same] at hbL
      injection hbL with hbL
      subst hbL
      exact hlt
    · rw [Rho.ext_ne _ _ he] at hbL
      exact h.mr.size _ _ hbL
  · exact (h.fz.new _).add (M.get_new_same _ _) (by simp)
  · intro b hb'
    unfold owns at hb'
    by_cases he : b = m.n
    · subst he; rw [M.get_new_same] at hb'; exact hb' rfl
    · rw [M.get_new_ne _ _ _ he] at hb'; exact h.ro b hb'

/-- there is some row in the memory -/
def NE (W : World) : Prop := ∃ (blk : Nat) (arr : Array Value) (e : Nat) (fr : Nat × Nat), W.heap[blk]? = some (.cells arr e fr)
/-- what is read at that type can be opened: its cells are such ones -/
def Opens (P : Program) (t : TypeId) (S : List U → Prop) : Prop :=
  ∀ {H : Type} {enc : TypeId × Value → H} {W : World}, NE W → ∀ {held : Bool} {n : Nat} {cs : List Value} {x : DataW H × List MemPlace}, DataW.trod enc P W 0 (fun _ => true) held n t cs = some x → (∀ k ∈ DataW.weights P t x.1, k ≤ Go.reachBytes) →
    ∀ (ρ : Rho) (m : M) (I : Fz), RO ρ m I W → ∃ (ρ' : Rho) (m' : M) (I' : Fz) (vs : List V) (us : List U), RO ρ' m' I' W ∧ Sub ρ ρ' ∧ Ext m m' ∧ Le I I' ∧ VRC ρ' vs cs ∧ RL I' vs us ∧ S us

def SInt (us : List U) : Prop := ∃ n : Int, -9223372036854775808 ≤ n ∧ n < 9223372036854775808 ∧ us = [.int .i64 n]
def SBool (us : List U) : Prop := ∃ b : Bool, us = [.bool b]
def SStr (us : List U) : Prop := ∃ s : List Nat, (∀ c ∈ s, c < 256) ∧ us = [.str s]

theorem opens_int {P : Program} {t : TypeId} (ht : P.underlying t = some (.int .i64)) : Opens P t SInt := by
  intro H enc W hne held n cs x h hwt ρ m I hr
  obtain ⟨k, rfl, _, hw⟩ := DataW.trod_int ht h
  refine ⟨ρ, m, I, [.int .i64 k], [.int .i64 k], hr, Sub.refl _, Ext.refl _, Le.refl _, ?_, ?_, k, ?_, ?_, rfl⟩
  · simp only [VRC, VR]; exact ⟨_, _, rfl, rfl, rfl, rfl⟩
  · simp only [RL, R']; exact ⟨_, _, rfl, rfl, rfl⟩
  · simp [Lit.wf, IntKind.min, IntKind.max, IntKind.signed, IntKind.bits] at hw; omega
  · simp [Lit.wf, IntKind.min, IntKind.max, IntKind.signed, IntKind.bits] at hw; omega
theorem opens_bool {P : Program} {t : TypeId} (ht : P.underlying t = some .bool) : Opens P t SBool := by
  intro H enc W hne held n cs x h hwt ρ m I hr
  obtain ⟨k, rfl, _⟩ := DataW.trod_bool ht h
  refine ⟨ρ, m, I, [.bool k], [.bool k], hr, Sub.refl _, Ext.refl _, Le.refl _, ?_, ?_, k, rfl⟩
  · simp only [VRC, VR]; exact ⟨_, _, rfl, rfl, rfl, rfl⟩
  · simp only [RL, R']; exact ⟨_, _, rfl, rfl, rfl⟩
theorem opens_str {P : Program} {t : TypeId} (ht : P.underlying t = some .string) : Opens P t SStr := by
  intro H enc W hne held n cs x h hwt ρ m I hr
  obtain ⟨s, rfl, _, _⟩ := DataW.trod_string ht h
  refine ⟨ρ, m, I, [.str (s.data.toList.map UInt8.toNat)], [.str (s.data.toList.map UInt8.toNat)], hr, Sub.refl _, Ext.refl _, Le.refl _, ?_, ?_, _, ?_, rfl⟩
  · simp only [VRC, VR]; exact ⟨_, _, rfl, ⟨s, rfl, rfl⟩, rfl, rfl⟩
  · simp only [RL, R']; exact ⟨_, _, rfl, rfl, rfl⟩
  · intro c hc
    obtain ⟨b, _, rfl⟩ := List.mem_map.1 hc
    exact UInt8.toNat_lt b

theorem mem_weightsAll {P : Program} {e : TypeId} {H : Type} {d : DataW H} {j : Nat} : ∀ {l : List (DataW H)}, d ∈ l → j ∈ DataW.weights P e d → j ∈ DataW.weightsAll P e l
  | [], h, _ => by simp at h
  | x :: r, h, hj => by
    simp only [DataW.weightsAll, List.mem_append]
    rcases List.mem_cons.1 h with rfl | h
    · exact .inl hj
    · exact .inr (mem_weightsAll h hj)
theorem mem_weightsEach {P : Program} {H : Type} {j : Nat} : ∀ {ts : List TypeId} {l : List (DataW H)} {i : Nat} {t : TypeId} {d : DataW H}, ts[i]? = some t → l[i]? = some d → j ∈ DataW.weights P t d → j ∈ DataW.weightsEach P ts l
  | [], _, i, t, d, h, _, _ => by simp at h
  | _ :: _, [], i, t, d, _, h, _ => by simp at h
  | u :: ts, x :: r, 0, t, d, h1, h2, hj => by
    simp only [List.getElem?_cons_zero, Option.some.injEq] at h1 h2
    subst h1 h2
    simp only [DataW.weightsEach, List.mem_append]
    exact .inl hj
  | u :: ts, x :: r, i + 1, t, d, h1, h2, hj => by
    simp only [DataW.weightsEach, List.mem_append]
    exact .inr (mem_weightsEach (i := i) (by simpa using h1) (by simpa using h2) hj)
/-- elements, one behind the other -/
theorem opens_elems {P : Program} {e : TypeId} {S : List U → Prop} (he : Opens P e S) {H : Type} {enc : TypeId × Value → H} {W : World} (hne : NE W) {held : Bool} {n k : Nat} :
    ∀ (l : List (List Value)), (∀ cs ∈ l, cs.length = k ∧ ∃ x, DataW.trod enc P W 0 (fun _ => true) held n e cs = some x ∧ ∀ k ∈ DataW.weights P e x.1, k ≤ Go.reachBytes) → ∀ (ρ : Rho) (m : M) (I : Fz), RO ρ m I W →
      ∃ (ρ' : Rho) (m' : M) (I' : Fz) (vs : List V) (uss : List (List U)), RO ρ' m' I' W ∧ Sub ρ ρ' ∧ Ext m m' ∧ Le I I' ∧ VRC ρ' vs l.flatten ∧ RL I' vs uss.flatten ∧ uss.length = l.length ∧ ∀ us ∈ uss, S us ∧ us.length = k
  | [], _, ρ, m, I, hr => ⟨ρ, m, I, [], [], hr, Sub.refl _, Ext.refl _, Le.refl _, by simp [VRC], by simp [RL], rfl, by simp⟩
  | cs :: l, h, ρ, m, I, hr => by
    obtain ⟨hk, x, hx, hwx⟩ := h cs (List.mem_cons_self ..)
    obtain ⟨ρ1, m1, I1, vs1, us1, a1, a2, a3, a4, a5, a6, a7⟩ := he hne hx hwx ρ m I hr
    obtain ⟨ρ2, m2, I2, vs2, uss2, b1, b2, b3, b4, b5, b6, b7, b8⟩ := opens_elems he hne l (fun c hc => h c (List.mem_cons_of_mem _ hc)) ρ1 m1 I1 a1
    refine ⟨ρ2, m2, I2, vs1 ++ vs2, us1 :: uss2, b1, a2.trans b2, a3.trans b3, a4.trans b4, ?_, ?_, by simp [b7], ?_⟩
    · simp only [List.flatten_cons]; exact (a5.mono b2).append b5
    · simp only [List.flatten_cons]; exact (a6.mono b4).append b6
    · intro us hus
      rcases List.mem_cons.1 hus with rfl | hus
      · have h1 := a5.length; have h2 := a6.length
        exact ⟨a7, by omega⟩
      · exact b8 us hus
def SLst (es by_ : Nat) (S : List U → Prop) (us : List U) : Prop := ∃ uss : List (List U), (∀ x ∈ uss, S x ∧ x.length = es) ∧ uss.length * by_ ≤ 140737488351232 ∧ us = [.lst es uss.flatten]

theorem opens_slice {P : Program} {t e : TypeId} {es by_ : Nat} {S : List U → Prop} (ht : P.underlying t = some (.slice e)) (hes : P.cellsOf e = es) (hby : P.bytesOf e = by_) (h0 : 0 < es) (he : Opens P e S) : Opens P t (SLst es by_ S) := by
  intro H enc W hne held n cs x h hwt ρ m I hr
  rcases DataW.trod_slice ht h with ⟨rfl, _⟩ | ⟨a, len, cap, elems, rest, k, _, rfl, hxd, _, h2, _, h4, h5, h6, _⟩
  · refine ⟨ρ, m, I, [.snil], [.lst es []], hr, Sub.refl _, Ext.refl _, Le.refl _, ?_, ?_, [], by simp, by simp, by simp⟩
    · simp only [VRC, VR]; exact ⟨_, _, rfl, rfl, rfl, rfl⟩
    · simp only [RL, R']; exact ⟨_, _, rfl, .inl (by simp), rfl⟩
  · rw [hes] at h5 h6
    -- the cells of each element
    have hget : ∀ i, i < len → ∃ c, W.cells? 0 (a.add (i * es)) es = some c ∧ ∃ x, DataW.trod enc P W 0 (fun _ => true) held k e c = some x ∧ ∀ k ∈ DataW.weights P e x.1, k ≤ Go.reachBytes := by
      intro i hi
      have := h5 i hi
      rw [List.getElem?_eq_getElem (by omega)] at this
      obtain ⟨c, h7, h8⟩ := Option.bind_eq_some_iff.1 this
      refine ⟨c, h7, _, h8, fun j hj => hwt j ?_⟩
      rw [hxd]
      simp only [DataW.weights, ht]
      refine List.mem_cons_of_mem _ (List.mem_append_left _ (mem_weightsAll (List.mem_map.2 ⟨_, List.getElem_mem (by omega), rfl⟩) hj))
    have hall : ∃ l : List (List Value), l.length = len ∧ ∀ i c, l[i]? = some c → W.cells? 0 (a.add (i * es)) es = some c ∧ ∃ x, DataW.trod enc P W 0 (fun _ => true) held k e c = some x ∧ ∀ k ∈ DataW.weights P e x.1, k ≤ Go.reachBytes := by
      have : ∀ j, j ≤ len → ∃ l : List (List Value), l.length = j ∧ ∀ i c, l[i]? = some c → W.cells? 0 (a.add (i * es)) es = some c ∧ ∃ x, DataW.trod enc P W 0 (fun _ => true) held k e c = some x ∧ ∀ k ∈ DataW.weights P e x.1, k ≤ Go.reachBytes := by
        intro j
        induction j with
        | zero => exact fun _ => ⟨[], rfl, by simp⟩
        | succ j ih =>
          intro hj
          obtain ⟨l, h7, h8⟩ := ih (by omega)
          obtain ⟨c, h9, h10⟩ := hget j (by omega)
          refine ⟨l ++ [c], by simp [h7], ?_⟩
          intro i d hd
          by_cases hi : i < l.length
          · rw [List.getElem?_append_left hi] at hd
            exact h8 i d hd
          · rw [List.getElem?_append_right (by omega)] at hd
            have h11 : i - l.length = 0 := by
              have := (List.getElem?_eq_some_iff.1 hd).1
              simpa using this
            have h12 : i = j := by omega
            subst h12
            rw [h11] at hd
            simp only [List.getElem?_cons_zero, Option.some.injEq] at hd
            subst hd
            exact ⟨h9, h10⟩
      exact this len (Nat.le_refl _)
    obtain ⟨l, hl, hc⟩ := hall
    have hlen : ∀ c ∈ l, c.length = es ∧ ∃ x, DataW.trod enc P W 0 (fun _ => true) held k e c = some x ∧ ∀ k ∈ DataW.weights P e x.1, k ≤ Go.reachBytes := by
      intro c hcm
      obtain ⟨i, hi⟩ := List.getElem?_of_mem hcm
      obtain ⟨h7, h8⟩ := hc i c hi
      exact ⟨(Go.World.cells?_some h7).2.1, h8⟩
    obtain ⟨ρ1, m1, I1, vs, uss, a1, a2, a3, a4, a5, a6, a7, a8⟩ := opens_elems he hne l hlen ρ m I hr
    have hfl : ∀ (l : List (List Value)), (∀ c ∈ l, c.length = es) → l.flatten.length = l.length * es := by
      intro l
      induction l with
      | nil => simp
      | cons c r ih =>
        intro hh
        simp only [List.flatten_cons, List.length_append, List.length_cons]
        rw [ih fun c hc => hh c (List.mem_cons_of_mem _ hc), hh c (List.mem_cons_self ..), Nat.succ_mul]
        omega
    have hfl0 := hfl l fun c hcm => (hlen c hcm).1
    have hvl := a5.length
    -- the cells of the row, one by one
    have hcell : ∀ j, j < l.flatten.length → W.cell? (a.add j) = l.flatten[j]? := by
      have : ∀ (l' : List (List Value)) (i0 : Nat), (∀ i c, l'[i]? = some c → W.cells? 0 (a.add ((i0 + i) * es)) es = some c) → ∀ j, j < l'.flatten.length → W.cell? (a.add (i0 * es + j)) = l'.flatten[j]? := by
        intro l'
        induction l' with
        | nil => intro i0 _ j hj; simp at hj
        | cons c r ih =>
          intro i0 hh j hj
          have h7 := hh 0 c rfl
          obtain ⟨_, h8, h9⟩ := Go.World.cells?_some h7
          simp only [List.flatten_cons]
          by_cases hjc : j < c.length
          · rw [List.getElem?_append_left hjc, ← h9 j (by omega)]
            rw [Addr.add_add, Nat.add_zero]
          · rw [List.getElem?_append_right (by omega)]
            have := ih (i0 + 1) (fun i d hd => by
              have := hh (i + 1) d (by simpa using hd)
              rwa [show i0 + (i + 1) = i0 + 1 + i by omega] at this) (j - c.length) (by simp only [List.flatten_cons, List.length_append] at hj; omega)
            rw [← this]
            have e1 : i0 * es + j = (i0 + 1) * es + (j - c.length) := by rw [Nat.add_mul]; omega
            rw [e1]
      intro j hj
      have := this l 0 (fun i c hi => by rw [Nat.zero_add]; exact (hc i c hi).1) j hj
      simpa using this
    have hwl : uss.length * by_ ≤ 140737488351232 := by
      have := hwt ((elems.length + rest.length) * by_) (by rw [hxd]; simp only [DataW.weights, ht, List.length_map, hby]; exact List.mem_cons_self ..)
      have hr : Go.reachBytes = 140737488351232 := rfl
      rw [hr] at this
      refine Nat.le_trans (Nat.mul_le_mul_right by_ ?_) this
      omega
    have hen : vs.length = len * es := by rw [← hvl, hfl0, hl]
    have hpos : ∃ (blk base : Nat) (arr : Array Value) (e' : Nat) (fr : Nat × Nat), W.heap[blk]? = some (.cells arr e' fr) ∧ base + vs.length ≤ arr.size ∧ (∀ i, i < l.flatten.length → arr[base + i]? = l.flatten[i]?) ∧ (cap ≠ 0 → a = ⟨blk, base, none⟩) := by
      by_cases hcap : cap = 0
      · obtain ⟨blk, arr, e', fr, hb⟩ := hne
        have h0' : len = 0 := by omega
        subst h0'
        exact ⟨blk, 0, arr, e', fr, hb, by rw [hen]; simp, fun i hi => by rw [hfl0, hl] at hi; omega, fun h => absurd hcap h⟩
      · have hc0 : ∃ v, W.cell? (a.add 0) = some v := by
          by_cases hz : len = 0
          · subst hz
            obtain ⟨h7, h8⟩ := h6 rfl
            have h9 := h8 0 (by omega)
            rw [List.getElem?_eq_getElem (by omega)] at h9
            obtain ⟨c, h10, _⟩ := Option.bind_eq_some_iff.1 h9
            obtain ⟨_, h11, h12⟩ := Go.World.cells?_some h10
            have h13 := h12 0 h0
            rw [List.getElem?_eq_getElem (by omega)] at h13
            rw [Addr.add_add] at h13
            refine ⟨_, (?_ : _ = _).trans h13⟩
            simp
          · have hlt : 0 < l.flatten.length := by rw [hfl0, hl]; exact Nat.mul_pos (by omega) h0
            have := hcell 0 hlt
            rw [List.getElem?_eq_getElem hlt] at this
            exact ⟨_, this⟩
        obtain ⟨v0, hv0⟩ := hc0
        have ha0 : a.add 0 = a := if_pos rfl
        rw [ha0] at hv0
        have hsp : a.spot = none := Go.World.cell?_spot hv0
        have hblk : ∃ arr e' fr, W.heap[a.block]? = some (.cells arr e' fr) := by
          unfold World.cell? at hv0
          split at hv0
          · rename_i c e' fr hh; exact ⟨c, e', fr, hh⟩
          · cases hv0
        obtain ⟨arr, e', fr, hb⟩ := hblk
        have hce : ∀ j, W.cell? (a.add j) = arr[a.off + j]? := by
          intro j
          have hj : a.add j = ⟨a.block, a.off + j, none⟩ := by
            have := addr_add a.block a.off j
            rwa [show (⟨a.block, a.off, none⟩ : Addr) = a by cases a; simp at hsp ⊢; exact hsp.symm] at this
          rw [hj]
          unfold World.cell?
          simp only [hb]
          rfl
        have hcs : ∀ i, i < l.flatten.length → arr[a.off + i]? = l.flatten[i]? := fun i hi => by rw [← hce]; exact hcell i hi
        refine ⟨a.block, a.off, arr, e', fr, hb, ?_, hcs, fun _ => by cases a; simp at hsp ⊢; exact hsp⟩
        by_cases hz : len = 0
        · have := (hce 0).symm.trans (ha0.symm ▸ hv0)
          have := (Array.getElem?_eq_some_iff.1 this).1
          rw [hen, hz]; omega
        · have hlt : 0 < l.flatten.length := by rw [hfl0, hl]; exact Nat.mul_pos (by omega) h0
          have := hcs (l.flatten.length - 1) (by omega)
          rw [List.getElem?_eq_getElem (by omega)] at this
          have := (Array.getElem?_eq_some_iff.1 this).1
          omega
    obtain ⟨blk, base, arr, e', fr, hb, hle, hcs, hap⟩ := hpos
    have hn := a1.new (base + cap * es) hb a5 hle hcs
    have hIn : I1 m1.n = none := a1.fz.none_n (Nat.le_refl _)
    refine ⟨_, _, _, [.sl m1.n 0 len len es false], [.lst es uss.flatten], hn, a2.trans (Sub.ext _ a1.mr.fresh), a3.push _, a4.trans (Le.add hIn _), ?_, ?_, uss, a8, hwl, rfl⟩
    · simp only [VRC, VR]
      refine ⟨_, [], rfl, ⟨_, cap, a, Rho.ext_same _ _ _, rfl, ?_, Nat.le_refl _, h2, fun h => (by cases h), fun _ => (by simp)⟩, rfl, rfl⟩
      intro hc0
      rw [hap hc0]
      simp
    · simp only [RL, R']
      refine ⟨_, [], rfl, .inr ⟨m1.n, 0, len, len, false, vs, rfl, Fz.add_same _ _ _, ?_, by omega, ?_⟩, rfl⟩
      · rw [← a6.length, hen]
      · rw [List.drop_zero, List.take_of_length_le (by omega)]
        exact a6.mono (Le.add hIn _)

/-- fields that lie one behind the other, from a place on up to the end -/
def Fields (P : Program) : Nat → List Field → List (List U → Prop) → Nat → Prop
  | o, [], [], e => o = e
  | o, f :: fs, S :: Ss, e => f.offset = o ∧ Opens P f.type S ∧ Fields P (o + P.cellsOf f.type) fs Ss e
  | _, _, _, _ => False
def SAll : List (List U → Prop) → List U → Prop
  | [], us => us = []
  | S :: Ss, us => ∃ a b, us = a ++ b ∧ S a ∧ SAll Ss b
theorem opens_fields {P : Program} {H : Type} {enc : TypeId × Value → H} {W : World} (hne : NE W) {held : Bool} {n : Nat} {cs : List Value} {xs : List (DataW H × List MemPlace)} {e : Nat} (he : cs.length = e) :
    ∀ (fs : List Field) (Ss : List (List U → Prop)) (o i0 : Nat), Fields P o fs Ss e → i0 + fs.length = xs.length → (∀ i f, fs[i]? = some f → DataW.trod enc P W 0 (fun _ => true) held n f.type ((cs.drop f.offset).take (P.cellsOf f.type)) = xs[i0 + i]? ∧ ∀ y, xs[i0 + i]? = some y → ∀ k ∈ DataW.weights P f.type y.1, k ≤ Go.reachBytes) →
      ∀ (ρ : Rho) (m : M) (I : Fz), RO ρ m I W → ∃ (ρ' : Rho) (m' : M) (I' : Fz) (vs : List V) (us : List U), RO ρ' m' I' W ∧ Sub ρ ρ' ∧ Ext m m' ∧ Le I I' ∧ VRC ρ' vs (cs.drop o) ∧ RL I' vs us ∧ SAll Ss us
  | [], [], o, i0, h, hl, hx, ρ, m, I, hr => by
    simp only [Fields] at h
    refine ⟨ρ, m, I, [], [], hr, Sub.refl _, Ext.refl _, Le.refl _, ?_, by simp [RL], by simp [SAll]⟩
    rw [List.drop_eq_nil_of_le (by omega)]
    simp [VRC]
  | f :: fs, S :: Ss, o, i0, h, hl, hx, ρ, m, I, hr => by
    simp only [Fields] at h
    obtain ⟨h1, h2, h3⟩ := h
    obtain ⟨h4, h5⟩ := hx 0 f rfl
    rw [h1, Nat.add_zero, List.getElem?_eq_getElem (by simp at hl; omega)] at h4
    rw [Nat.add_zero, List.getElem?_eq_getElem (by simp at hl; omega)] at h5
    obtain ⟨ρ1, m1, I1, vs1, us1, a1, a2, a3, a4, a5, a6, a7⟩ := h2 hne h4 (h5 _ rfl) ρ m I hr
    obtain ⟨ρ2, m2, I2, vs2, us2, b1, b2, b3, b4, b5, b6, b7⟩ := opens_fields hne he fs Ss (o + P.cellsOf f.type) (i0 + 1) h3 (xs := xs) (by simp at hl; omega) (fun i g hg => by
      have := hx (i + 1) g (by simpa using hg)
      rwa [show i0 + (i + 1) = i0 + 1 + i by omega] at this) ρ1 m1 I1 a1
    refine ⟨ρ2, m2, I2, vs1 ++ vs2, us1 ++ us2, b1, a2.trans b2, a3.trans b3, a4.trans b4, ?_, (a6.mono b4).append b6, ⟨us1, us2, rfl, a7, b7⟩⟩
    have := (a5.mono b2).append b5
    rwa [← List.drop_drop, List.take_append_drop] at this
  | [], _ :: _, o, i0, h, _, _, _, _, _, _ => by simp [Fields] at h
  | _ :: _, [], o, i0, h, _, _, _, _, _, _ => by simp [Fields] at h
theorem opens_struct {P : Program} {t : TypeId} {fs : Array Field} {Ss : List (List U → Prop)} (ht : P.underlying t = some (.struct fs)) (hf : Fields P 0 fs.toList Ss (P.cellsOf t)) : Opens P t (SAll Ss) := by
  intro H enc W hne held n cs x h hwt ρ m I hr
  obtain ⟨xs, k, _, hxd, hl, hx, hfs⟩ := DataW.trod_struct ht h
  have := opens_fields hne hl fs.toList Ss 0 0 hf (xs := xs) (by simp [hx]) (fun i f hf => by
    rw [Nat.zero_add]
    refine ⟨hfs i f (by simpa using hf), fun y hy j hj => hwt j ?_⟩
    rw [hxd]
    simp only [DataW.weights, ht]
    exact mem_weightsEach (i := i) (t := f.type) (d := y.1) (by simp [hf]) (by simp [hy]) hj) ρ m I hr
  simpa using this
end Mu
