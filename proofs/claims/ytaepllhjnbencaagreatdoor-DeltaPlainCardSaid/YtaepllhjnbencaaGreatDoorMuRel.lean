/- The abstract memory and the model's: what stands for what. -/
import Derived.Calls
import Derived.Orders
import Derived.LoopN
import Derived.Laws.Cells
import Derived.Laws.Entries
import Derived.Test.YtaepllhjnbencaaGreatDoorMuCore
set_option linter.unusedVariables false
set_option linter.unusedSimpArgs false
namespace Mu
open Go (Value World Addr Program IntKind)

/-! ### Keys -/
def P.val : P → Nat
  | .h => 1
  | .o p => 2 * p.val
  | .i p => 2 * p.val + 1

theorem val_toP : ∀ (f n : Nat), 1 ≤ n → n ≤ f → (toP f n).val = n := by
  intro f
  induction f with
  | zero => intro n h1 h2; omega
  | succ f ih =>
    intro n h1 h2
    unfold toP
    by_cases h : n ≤ 1
    · rw [if_pos h]; simp [P.val]; omega
    · rw [if_neg h]
      have h3 := ih (n / 2) (by omega) (by omega)
      cases hb : (n % 2 == 0)
      · simp only [cond_false, P.val, h3]; simp at hb; omega
      · simp only [cond_true, P.val, h3]; simp at hb; omega

theorem key_inj {a b : Nat} (h : key a = key b) : a = b := by
  have h1 := val_toP (a + 1) (a + 1) (by omega) (by omega)
  have h2 := val_toP (b + 1) (b + 1) (by omega) (by omega)
  unfold key at h
  rw [h] at h1
  omega

namespace T
variable {α : Type}
theorem get_sing_same (x : α) : ∀ p : P, (sing x p).get p = some x
  | .h => rfl
  | .o p => get_sing_same x p
  | .i p => get_sing_same x p
theorem get_sing_ne (x : α) : ∀ p q : P, p ≠ q → (sing x p).get q = none
  | .h, .h, h => absurd rfl h
  | .h, .o _, _ => rfl
  | .h, .i _, _ => rfl
  | .o p, .h, _ => rfl
  | .o p, .o q, h => get_sing_ne x p q (fun e => h (by rw [e]))
  | .o p, .i q, _ => rfl
  | .i p, .h, _ => rfl
  | .i p, .o q, _ => rfl
  | .i p, .i q, h => get_sing_ne x p q (fun e => h (by rw [e]))
theorem get_set_same (x : α) : ∀ (p : P) (t : T α), (t.set x p).get p = some x
  | p, nil => by cases p <;> exact get_sing_same x _
  | .h, node l v r => rfl
  | .o p, node l v r => get_set_same x p l
  | .i p, node l v r => get_set_same x p r
theorem get_nil (q : P) : (nil : T α).get q = none := by cases q <;> rfl
theorem get_set_ne (x : α) : ∀ (p q : P) (t : T α), p ≠ q → (t.set x p).get q = t.get q
  | p, q, nil, h => by
    rw [get_nil]
    cases p <;> exact get_sing_ne x _ q h
  | .h, .h, node l v r, h => absurd rfl h
  | .h, .o _, node l v r, _ => rfl
  | .h, .i _, node l v r, _ => rfl
  | .o p, .h, node l v r, _ => rfl
  | .o p, .o q, node l v r, h => get_set_ne x p q l (fun e => h (by rw [e]))
  | .o p, .i q, node l v r, _ => rfl
  | .i p, .h, node l v r, _ => rfl
  | .i p, .o q, node l v r, _ => rfl
  | .i p, .i q, node l v r, h => get_set_ne x p q r (fun e => h (by rw [e]))
end T

theorem M.get_put_same (m : M) (b : Nat) (x : Blk) : (m.put b x).get b = some x := T.get_set_same _ _ _
theorem M.get_put_ne (m : M) (b c : Nat) (x : Blk) (h : b ≠ c) : (m.put b x).get c = m.get c :=
  T.get_set_ne _ _ _ _ fun e => h (key_inj e)
theorem M.get_new_same (m : M) (x : Blk) : (m.new x).get m.n = some x := T.get_set_same _ _ _
theorem M.get_new_ne (m : M) (c : Nat) (x : Blk) (h : c ≠ m.n) : (m.new x).get c = m.get c :=
  T.get_set_ne _ _ _ _ fun e => h (key_inj e).symm
@[simp] theorem M.n_put (m : M) (b : Nat) (x : Blk) : (m.put b x).n = m.n := rfl
@[simp] theorem M.n_new (m : M) (x : Blk) : (m.new x).n = m.n + 1 := rfl

/-! ### Values -/
/-- Where an abstract block lies: the model's block, the first cell's place, where the row ends. -/
structure Loc where
  blk : Nat
  base : Nat
  endd : Nat

abbrev Rho := Nat → Option Loc

mutual
def VR (ρ : Rho) : V → Value → Prop
  | .junk, _ => True
  | .bool b, v => v = .bool b
  | .int k n, v => v = .int k n
  | .str s, v => ∃ bs : ByteArray, v = .string bs ∧ bs.data.toList.map UInt8.toNat = s
  | .pnil, v => v = .pointer none
  | .ptr b o, v => ∃ L, ρ b = some L ∧ v = .pointer (some ⟨L.blk, L.base + o, none⟩)
  | .snil, v => v = .slice none 0 0
  | .sl b o len cap es ex, v => ∃ L cap' p, ρ b = some L ∧ v = .slice (some p) len cap' ∧ (cap' ≠ 0 → p = ⟨L.blk, L.base + o, none⟩) ∧ len ≤ cap ∧ cap ≤ cap' ∧
      (ex = true → cap' = cap) ∧ (ex = false → L.base + o + cap' * es = L.endd)
  | .mnil, v => v = .map none
  | .map b, v => ∃ L, ρ b = some L ∧ v = .map (some L.blk)
  | .fn f a c, v => ∃ a' c' : Array Value, v = .func (.func f) a' c' ∧ VRL ρ a a'.toList ∧ VRL ρ c c'.toList
  | .fnil, v => v = .nilFunc
  | .iface t x, v => ∃ x', v = .iface t x' ∧ VR ρ x x'
  | .inil, v => v = .nilIface
  | .agg cs, v => ∃ cs' : Array Value, v = .agg cs' ∧ VRC ρ cs cs'.toList
  | .tup vs, v => ∃ vs' : Array Value, v = .tuple vs' ∧ VRL ρ vs vs'.toList
def VRL (ρ : Rho) : List V → List Value → Prop
  | [], l => l = []
  | x :: r, l => ∃ x' r', l = x' :: r' ∧ VR ρ x x' ∧ VRL ρ r r'
def VRC (ρ : Rho) : List V → List Value → Prop
  | [], l => l = []
  | x :: r, l => ∃ x' r', l = x' :: r' ∧ VR ρ x x' ∧ x'.oneCell' = true ∧ VRC ρ r r'
end

def Sub (ρ ρ' : Rho) : Prop := ∀ b L, ρ b = some L → ρ' b = some L
theorem Sub.refl (ρ : Rho) : Sub ρ ρ := fun _ _ h => h
theorem Sub.trans {a b c : Rho} (h : Sub a b) (k : Sub b c) : Sub a c := fun x L e => k x L (h x L e)

mutual
theorem VR.mono {ρ ρ' : Rho} (h : Sub ρ ρ') : ∀ {v : V} {x : Value}, VR ρ v x → VR ρ' v x
  | .junk, _, k => by simp only [VR]
  | .bool b, _, k => by simpa only [VR] using k
  | .int _ _, _, k => by simpa only [VR] using k
  | .str _, _, k => by simpa only [VR] using k
  | .pnil, _, k => by simpa only [VR] using k
  | .ptr b o, _, k => by
    simp only [VR] at k ⊢
    obtain ⟨L, h1, h2⟩ := k
    exact ⟨L, h _ _ h1, h2⟩
  | .snil, _, k => by simpa only [VR] using k
  | .sl .., _, k => by
    simp only [VR] at k ⊢
    obtain ⟨L, c, p, h1, h2⟩ := k
    exact ⟨L, c, p, h _ _ h1, h2⟩
  | .mnil, _, k => by simpa only [VR] using k
  | .map b, _, k => by
    simp only [VR] at k ⊢
    obtain ⟨L, h1, h2⟩ := k
    exact ⟨L, h _ _ h1, h2⟩
  | .fn f a c, _, k => by
    simp only [VR] at k ⊢
    obtain ⟨a', c', h1, h2, h3⟩ := k
    exact ⟨a', c', h1, VRL.mono h h2, VRL.mono h h3⟩
  | .fnil, _, k => by simpa only [VR] using k
  | .iface t x, _, k => by
    simp only [VR] at k ⊢
    obtain ⟨x', h1, h2⟩ := k
    exact ⟨x', h1, VR.mono h h2⟩
  | .inil, _, k => by simpa only [VR] using k
  | .agg cs, _, k => by
    simp only [VR] at k ⊢
    obtain ⟨x', h1, h2⟩ := k
    exact ⟨x', h1, VRC.mono h h2⟩
  | .tup cs, _, k => by
    simp only [VR] at k ⊢
    obtain ⟨x', h1, h2⟩ := k
    exact ⟨x', h1, VRL.mono h h2⟩
theorem VRL.mono {ρ ρ' : Rho} (h : Sub ρ ρ') : ∀ {v : List V} {x : List Value}, VRL ρ v x → VRL ρ' v x
  | [], _, k => by simpa only [VRL] using k
  | x :: r, _, k => by
    simp only [VRL] at k ⊢
    obtain ⟨x', r', h1, h2, h3⟩ := k
    exact ⟨x', r', h1, VR.mono h h2, VRL.mono h h3⟩
theorem VRC.mono {ρ ρ' : Rho} (h : Sub ρ ρ') : ∀ {v : List V} {x : List Value}, VRC ρ v x → VRC ρ' v x
  | [], _, k => by simpa only [VRC] using k
  | x :: r, _, k => by
    simp only [VRC] at k ⊢
    obtain ⟨x', r', h1, h2, h3, h4⟩ := k
    exact ⟨x', r', h1, VR.mono h h2, h3, VRC.mono h h4⟩
end

/-! ### Memory -/
def KR (ρ : Rho) : List (V × V) → List Go.MapEntry → Prop
  | [], l => l = []
  | (k, v) :: r, l => ∃ e r', l = e :: r' ∧ VR ρ k e.key ∧ VR ρ v e.val ∧ KR ρ r r'

/-- each entry has a stamp of its own, of the past -/
def Stamps (l : List Go.MapEntry) (clock : Nat) : Prop := (∀ x ∈ l, x.born < clock) ∧ (l.map (·.born)).Nodup

def BR (ρ : Rho) (w : World) (L : Loc) : Blk → Prop
  | .cells cs own t => ∃ (arr : Array Value) (e : Nat) (fr : Nat × Nat), w.heap[L.blk]? = some (.cells arr e fr) ∧ L.base + cs.length ≤ arr.size ∧
      (∀ i x, cs[i]? = some x → ∃ x', arr[L.base + i]? = some x' ∧ VR ρ x x' ∧ x'.oneCell' = true) ∧
      (own ≠ .ro → e = t ∧ L.endd = arr.size ∧ L.base = 0) ∧ (own = .rw → fr = (0, 0)) ∧ (own = .sb → arr.size ≤ fr.1)
  | .map es => ∃ (ents : Array Go.MapEntry) (clock : Nat), w.heap[L.blk]? = some (.map ents clock) ∧ KR ρ es ents.toList ∧ Stamps ents.toList clock
  | .dead => True

/-- a block that may be written -/
def owns (m : M) (b : Nat) : Prop :=
  match m.get b with
  | some (.cells _ own _) => own ≠ .ro
  | some (.map _) => True
  | _ => False

/-- a block that is there -/
def lives (m : M) (b : Nat) : Prop :=
  match m.get b with
  | some .dead => False
  | some _ => True
  | none => False

structure MR (ρ : Rho) (m : M) (w : World) : Prop where
  dom : ∀ b L, ρ b = some L → b < m.n
  blk : ∀ b L, ρ b = some L → ∀ x, m.get b = some x → BR ρ w L x
  inj : ∀ b L b' L', ρ b = some L → ρ b' = some L' → owns m b → lives m b' → b ≠ b' → L.blk ≠ L'.blk
  size : ∀ b L, ρ b = some L → L.blk < w.heap.size

/-- the model's blocks that may be written -/
def Img (ρ : Rho) (m : M) (r : Nat) : Prop := ∃ b L, ρ b = some L ∧ owns m b ∧ L.blk = r

/-- from one pair to a later one -/
structure Good (ρ : Rho) (m : M) (w : World) (ρ' : Rho) (m' : M) (w' : World) : Prop where
  mr : MR ρ' m' w'
  sub : Sub ρ ρ'
  new : ∀ b, ρ b = none → ρ' b ≠ none → m.n ≤ b
  n : m.n ≤ m'.n
  os : w'.os = w.os
  tape : w'.tape = w.tape
  output : w'.output = w.output
  hsize : w.heap.size ≤ w'.heap.size
  frame : ∀ r, r < w.heap.size → ¬ Img ρ m r → w'.heap[r]? = w.heap[r]?
  img : ∀ r, Img ρ' m' r → Img ρ m r ∨ w.heap.size ≤ r

theorem Good.refl {ρ : Rho} {m : M} {w : World} (h : MR ρ m w) : Good ρ m w ρ m w :=
  ⟨h, Sub.refl _, fun b h1 h2 => absurd h1 h2, Nat.le_refl _, rfl, rfl, rfl, Nat.le_refl _, fun _ _ _ => rfl, fun r h => .inl h⟩

theorem Good.trans {ρ ρ1 ρ2 : Rho} {m m1 m2 : M} {w w1 w2 : World} (h : Good ρ m w ρ1 m1 w1) (k : Good ρ1 m1 w1 ρ2 m2 w2) : Good ρ m w ρ2 m2 w2 where
  mr := k.mr
  sub := h.sub.trans k.sub
  new := fun b h1 h2 => by
    cases h3 : ρ1 b with
    | none => exact Nat.le_trans h.n (k.new b h3 h2)
    | some L => exact h.new b h1 (by simp [h3])
  n := Nat.le_trans h.n k.n
  os := k.os.trans h.os
  tape := k.tape.trans h.tape
  output := k.output.trans h.output
  hsize := Nat.le_trans h.hsize k.hsize
  frame := fun r hr hi => by
    rw [k.frame r (Nat.lt_of_lt_of_le hr h.hsize) (fun hi1 => ?_), h.frame r hr hi]
    rcases h.img r hi1 with h1 | h1
    · exact hi h1
    · omega
  img := fun r hi => by
    rcases k.img r hi with h1 | h1
    · exact h.img r h1
    · exact .inr (Nat.le_trans h.hsize h1)

theorem MR.world {ρ : Rho} {m : M} {w w' : World} (h : MR ρ m w) (hh : w'.heap = w.heap) : MR ρ m w' := by
  refine ⟨h.dom, fun b L hb x hx => ?_, h.inj, fun b L hb => by rw [hh]; exact h.size b L hb⟩
  have := h.blk b L hb x hx
  cases x <;> simp only [BR] at this ⊢ <;> (try rw [hh]) <;> exact this

theorem Good.tick {ρ : Rho} {m : M} {w : World} (h : MR ρ m w) : Good ρ m w ρ m w.drew :=
  ⟨h.world rfl, Sub.refl _, fun b h1 h2 => absurd h1 h2, Nat.le_refl _, rfl, rfl, rfl, Nat.le_refl _, fun _ _ _ => rfl, fun r h => .inl h⟩
end Mu
