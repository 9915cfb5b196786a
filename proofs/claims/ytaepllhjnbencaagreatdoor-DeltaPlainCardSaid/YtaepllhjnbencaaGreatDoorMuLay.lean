/- Layouts as plain values: cells, trees, how a tree is laid down, and how it lies in the memory. -/
import Derived.Test.YtaepllhjnbencaaGreatDoorMuLoop
set_option linter.unusedVariables false
set_option linter.unusedSimpArgs false
namespace Mu
abbrev wr (x : Int) : Int := Go.IntKind.wrap .i64 x
abbrev vi (x : Int) : V := .int .i64 x
structure Cell where
  d : Int
  k : Int
  x : Int
  y : Int
  w : Int
  h : Int
  p : Int
deriving DecidableEq
def cellV (c : Cell) : List V := [vi c.d, vi c.k, vi c.x, vi c.y, vi c.w, vi c.h, vi c.p]
theorem cellV_length (c : Cell) : (cellV c).length = 7 := rfl
inductive Tree
  | leaf (x y w h id : Int)
  | split (x y w h kind : Int) (kids : List Tree)
def Tree.w : Tree → Int | .leaf _ _ w _ _ => w | .split _ _ w _ _ _ => w
def Tree.h : Tree → Int | .leaf _ _ _ h _ => h | .split _ _ _ h _ _ => h
mutual
def Tree.size : Tree → Nat
  | .leaf .. => 1
  | .split _ _ _ _ _ ks => 1 + Tree.sizes ks
def Tree.sizes : List Tree → Nat
  | [] => 0
  | t :: r => t.size + Tree.sizes r
end
theorem Tree.size_pos : ∀ t : Tree, 0 < t.size
  | .leaf .. => by simp [Tree.size]
  | .split .. => by simp only [Tree.size]; omega
mutual
/-- the list of a tree that begins there -/
def layP : Tree → Int → Int → Int → List Cell
  | .leaf _ _ w h id, d, x, y => [⟨d, 1, x, y, w, h, id⟩]
  | .split _ _ w h k ks, d, x, y => ⟨d, k, x, y, w, h, 0⟩ :: layK ks k (wr (d + 1)) x y
def layK : List Tree → Int → Int → Int → Int → List Cell
  | [], _, _, _, _ => []
  | t :: r, k, d, x, y => layP t d x y ++ (bif decide (k = 2) then layK r k d (wr (x + wr (t.w + 1))) y else layK r k d x (wr (y + wr (t.h + 1))))
end
mutual
/-- the tree with the places that it is laid down at -/
def plT : Tree → Int → Int → Tree
  | .leaf _ _ w h id, x, y => .leaf x y w h id
  | .split _ _ w h k ks, x, y => .split x y w h k (plK ks k x y)
def plK : List Tree → Int → Int → Int → List Tree
  | [], _, _, _ => []
  | t :: r, k, x, y => plT t x y :: (bif decide (k = 2) then plK r k (wr (x + wr (t.w + 1))) y else plK r k x (wr (y + wr (t.h + 1))))
end
mutual
theorem layP_length : ∀ (t : Tree) (d x y : Int), (layP t d x y).length = t.size
  | .leaf .., _, _, _ => rfl
  | .split _ _ _ _ k ks, d, x, y => by simp only [layP, List.length_cons, layK_length ks, Tree.size]; omega
theorem layK_length : ∀ (ks : List Tree) (k d x y : Int), (layK ks k d x y).length = Tree.sizes ks
  | [], _, _, _, _ => rfl
  | t :: r, k, d, x, y => by
    simp only [layK, List.length_append, layP_length t, Tree.sizes]
    cases decide (k = 2) <;> simp only [cond_true, cond_false, layK_length r]
end
mutual
/-- the ids of the panes, in their order -/
def ids : Tree → List Int
  | .leaf _ _ _ _ id => [id]
  | .split _ _ _ _ _ ks => idsK ks
def idsK : List Tree → List Int
  | [] => []
  | t :: r => ids t ++ idsK r
end
mutual
theorem ids_plT : ∀ (t : Tree) (x y : Int), ids (plT t x y) = ids t
  | .leaf .., _, _ => rfl
  | .split _ _ _ _ k ks, x, y => by simp only [plT, ids, idsK_plK ks]
theorem idsK_plK : ∀ (ks : List Tree) (k x y : Int), idsK (plK ks k x y) = idsK ks
  | [], _, _, _ => rfl
  | t :: r, k, x, y => by
    simp only [plK, idsK, ids_plT t]
    cases decide (k = 2) <;> simp only [cond_true, cond_false, idsK_plK r]
end
/-- the numbers of the types: a leaf, a split, pointers to them, a row of cells of a tree -/
structure LT where
  leaf : Nat
  split : Nat
  pleaf : Nat
  psplit : Nat
  kid : Nat
section
variable (L : LT) (m : M)
mutual
/-- a tree lies there, in these blocks -/
def TreeAt : Tree → V → List Nat → Prop
  | .leaf x y w h id, v, F => ∃ b, v = .iface L.pleaf (.ptr b 0) ∧ F = [b] ∧ m.get b = some (.cells [vi x, vi y, vi w, vi h, vi id] .rw L.leaf)
  | .split x y w h k ks, v, F => ∃ b kb vs FK, v = .iface L.psplit (.ptr b 0) ∧ F = b :: kb :: FK ∧
      m.get b = some (.cells [vi x, vi y, vi w, vi h, vi k, .sl kb 0 ks.length ks.length 1 false] .rw L.split) ∧ m.get kb = some (.cells vs .rw L.kid) ∧ KidsAt ks vs FK
def KidsAt : List Tree → List V → List Nat → Prop
  | [], vs, F => vs = [] ∧ F = []
  | t :: r, vs, F => ∃ v vr Ft Fr, vs = v :: vr ∧ F = Ft ++ Fr ∧ TreeAt t v Ft ∧ KidsAt r vr Fr
end
end
section
variable {L : LT} {m m' : M}
mutual
theorem TreeAt.same : ∀ {t : Tree} {v : V} {F : List Nat}, TreeAt L m t v F → (∀ b, b ∈ F → m'.get b = m.get b) → TreeAt L m' t v F
  | .leaf .., v, F, h, e => by
    simp only [TreeAt] at h ⊢
    obtain ⟨b, h1, rfl, h3⟩ := h
    exact ⟨b, h1, rfl, (e b (List.mem_cons_self ..)).trans h3⟩
  | .split _ _ _ _ _ ks, v, F, h, e => by
    simp only [TreeAt] at h ⊢
    obtain ⟨b, kb, vs, FK, h1, rfl, h3, h4, h5⟩ := h
    exact ⟨b, kb, vs, FK, h1, rfl, (e b (by simp)).trans h3, (e kb (by simp)).trans h4, KidsAt.same h5 fun c hc => e c (by simp [hc])⟩
theorem KidsAt.same : ∀ {ks : List Tree} {vs : List V} {F : List Nat}, KidsAt L m ks vs F → (∀ b, b ∈ F → m'.get b = m.get b) → KidsAt L m' ks vs F
  | [], vs, F, h, e => by simpa only [KidsAt] using h
  | t :: r, vs, F, h, e => by
    simp only [KidsAt] at h ⊢
    obtain ⟨v, vr, Ft, Fr, h1, rfl, h3, h4⟩ := h
    exact ⟨v, vr, Ft, Fr, h1, rfl, TreeAt.same h3 fun b hb => e b (by simp [hb]), KidsAt.same h4 fun b hb => e b (by simp [hb])⟩
end
theorem KidsAt.length : ∀ {ks : List Tree} {vs : List V} {F : List Nat}, KidsAt L m ks vs F → vs.length = ks.length
  | [], vs, F, h => by simp only [KidsAt] at h; rw [h.1]; rfl
  | t :: r, vs, F, h => by
    simp only [KidsAt] at h
    obtain ⟨v, vr, Ft, Fr, rfl, _, _, h4⟩ := h
    simp only [List.length_cons, KidsAt.length h4]
end
end Mu
