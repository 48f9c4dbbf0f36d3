import Derived.Orders
import Derived.LoopN
import Derived.Below
import Derived.Laws.Cells
import Derived.KernelRfl
namespace Go.Ev
open Go

/-- A binary trie, places from 1 on. -/
inductive Tr (α : Type) : Type where
  | leaf : Tr α
  | node (l : Tr α) (v : Option α) (r : Tr α) : Tr α

def Tr.get {α : Type} : Tr α → Nat → Option α
  | .leaf, _ => none
  | .node l v r, i => match Nat.beq i 1 with
    | true => v
    | false => match Nat.beq (Nat.mod i 2) 0 with
      | true => l.get (Nat.div i 2)
      | false => r.get (Nat.div i 2)

def Tr.putF {α : Type} : Nat → Tr α → Nat → Option α → Tr α
  | 0, t, _, _ => t
  | f + 1, .leaf, i, x => match Nat.beq i 1 with
    | true => .node .leaf x .leaf
    | false => match Nat.beq (Nat.mod i 2) 0 with
      | true => .node (Tr.putF f .leaf (Nat.div i 2) x) none .leaf
      | false => .node .leaf none (Tr.putF f .leaf (Nat.div i 2) x)
  | f + 1, .node l v r, i, x => match Nat.beq i 1 with
    | true => .node l x r
    | false => match Nat.beq (Nat.mod i 2) 0 with
      | true => .node (Tr.putF f l (Nat.div i 2) x) v r
      | false => .node l v (Tr.putF f r (Nat.div i 2) x)

theorem beqF {a b : Nat} (h : a ≠ b) : Nat.beq a b = false := by
  cases hh : Nat.beq a b
  · rfl
  · exact absurd (Nat.eq_of_beq_eq_true hh) h

theorem Tr.get_leaf {α : Type} (i : Nat) : (Tr.leaf : Tr α).get i = none := rfl

theorem Tr.get_node {α : Type} (l : Tr α) (v : Option α) (r : Tr α) (i : Nat) :
    (Tr.node l v r).get i = if i = 1 then v else if i % 2 = 0 then l.get (i / 2) else r.get (i / 2) := by
  simp only [Tr.get]
  by_cases h : i = 1
  · subst h; rfl
  · have : Nat.beq i 1 = false := beqF h
    rw [this, if_neg h]
    by_cases h2 : i % 2 = 0
    · have : Nat.beq (Nat.mod i 2) 0 = true := by show Nat.beq (i % 2) 0 = true; simp [h2]
      rw [this, if_pos h2]; rfl
    · have : Nat.beq (Nat.mod i 2) 0 = false := beqF (a := i % 2) h2
      rw [this, if_neg h2]; rfl

theorem Tr.putF_leaf {α : Type} (f : Nat) (i : Nat) (x : Option α) :
    Tr.putF (f + 1) .leaf i x = Tr.putF (f + 1) (.node .leaf none .leaf) i x := by
  simp only [Tr.putF]

theorem Tr.putF_node {α : Type} (f : Nat) (l : Tr α) (v : Option α) (r : Tr α) (i : Nat) (x : Option α) :
    Tr.putF (f + 1) (.node l v r) i x = if i = 1 then .node l x r else if i % 2 = 0 then .node (Tr.putF f l (i / 2) x) v r else .node l v (Tr.putF f r (i / 2) x) := by
  simp only [Tr.putF]
  by_cases h : i = 1
  · subst h; rfl
  · have : Nat.beq i 1 = false := beqF h
    rw [this, if_neg h]
    by_cases h2 : i % 2 = 0
    · have : Nat.beq (Nat.mod i 2) 0 = true := by show Nat.beq (i % 2) 0 = true; simp [h2]
      rw [this, if_pos h2]; rfl
    · have : Nat.beq (Nat.mod i 2) 0 = false := beqF (a := i % 2) h2
      rw [this, if_neg h2]; rfl

theorem Tr.get_putF {α : Type} : ∀ (f : Nat) (t : Tr α) (i j : Nat) (x : Option α), 1 ≤ i → i ≤ f → 1 ≤ j →
    (Tr.putF f t i x).get j = if i = j then x else t.get j := by
  intro f
  induction f with
  | zero => intro t i j x h1 h2; omega
  | succ f ih =>
    have main : ∀ (l : Tr α) (v : Option α) (r : Tr α) (i j : Nat) (x : Option α), 1 ≤ i → i ≤ f + 1 → 1 ≤ j →
        (Tr.putF (f + 1) (.node l v r) i x).get j = if i = j then x else (Tr.node l v r).get j := by
      intro l v r i j x h1 h2 hj
      rw [Tr.putF_node]
      by_cases hi1 : i = 1
      · subst hi1
        rw [if_pos rfl, Tr.get_node, Tr.get_node]
        by_cases hj1 : j = 1
        · subst hj1; simp
        · rw [if_neg hj1, if_neg hj1, if_neg (Ne.symm hj1)]
      · rw [if_neg hi1]
        by_cases he : i % 2 = 0
        · rw [if_pos he, Tr.get_node, Tr.get_node]
          by_cases hj1 : j = 1
          · subst hj1; rw [if_pos rfl, if_neg (by omega), if_pos rfl]
          · rw [if_neg hj1, if_neg hj1]
            by_cases hje : j % 2 = 0
            · rw [if_pos hje, if_pos hje, ih l (i / 2) (j / 2) x (by omega) (by omega) (by omega)]
              by_cases hij : i = j
              · subst hij; simp
              · rw [if_neg hij, if_neg (by omega)]
            · rw [if_neg hje, if_neg hje, if_neg (by omega)]
        · rw [if_neg he, Tr.get_node, Tr.get_node]
          by_cases hj1 : j = 1
          · subst hj1; rw [if_pos rfl, if_neg (by omega), if_pos rfl]
          · rw [if_neg hj1, if_neg hj1]
            by_cases hje : j % 2 = 0
            · rw [if_pos hje, if_pos hje, if_neg (by omega)]
            · rw [if_neg hje, if_neg hje, ih r (i / 2) (j / 2) x (by omega) (by omega) (by omega)]
              by_cases hij : i = j
              · subst hij; simp
              · rw [if_neg hij, if_neg (by omega)]
    intro t i j x h1 h2 hj
    cases t with
    | node l v r => exact main l v r i j x h1 h2 hj
    | leaf =>
      rw [Tr.putF_leaf, main .leaf none .leaf i j x h1 h2 hj, Tr.get_node, Tr.get_leaf]
      by_cases hij : i = j
      · rw [if_pos hij, if_pos hij]
      · rw [if_neg hij, if_neg hij]; split <;> (try split) <;> rfl

/-- The trie by places from 0 on. -/
def Tr.at0 {α : Type} (t : Tr α) (i : Nat) : Option α := t.get (Nat.succ i)
def Tr.put0 {α : Type} (t : Tr α) (i : Nat) (x : Option α) : Tr α := Tr.putF (Nat.succ i) t (Nat.succ i) x

theorem Tr.at0_put0 {α : Type} (t : Tr α) (i j : Nat) (x : Option α) : (t.put0 i x).at0 j = if i = j then x else t.at0 j := by
  unfold Tr.at0 Tr.put0
  rw [Tr.get_putF _ _ _ _ _ (Nat.succ_le_succ (Nat.zero_le _)) (Nat.le_refl _) (Nat.succ_le_succ (Nat.zero_le _))]
  by_cases h : i = j
  · subst h; simp
  · rw [if_neg h, if_neg (by omega)]

theorem Tr.at0_put0_same {α : Type} (t : Tr α) (i : Nat) (x : Option α) : (t.put0 i x).at0 i = x := by simp [Tr.at0_put0]
theorem Tr.at0_put0_ne {α : Type} (t : Tr α) {i j : Nat} (x : Option α) (h : i ≠ j) : (t.put0 i x).at0 j = t.at0 j := by simp [Tr.at0_put0, h]
theorem Tr.at0_leaf {α : Type} (i : Nat) : (Tr.leaf : Tr α).at0 i = none := rfl

def Tr.ofList {α : Type} : List α → Nat → Tr α → Tr α
  | [], _, t => t
  | x :: l, i, t => Tr.ofList l (Nat.succ i) (t.put0 i (some x))

theorem Tr.at0_ofList {α : Type} : ∀ (l : List α) (i : Nat) (t : Tr α) (j : Nat),
    (Tr.ofList l i t).at0 j = if i ≤ j ∧ j < i + l.length then l[j - i]? else t.at0 j := by
  intro l
  induction l with
  | nil => intro i t j; simp only [Tr.ofList, List.length_nil]; rw [if_neg (by omega)]
  | cons x l ih =>
    intro i t j
    simp only [Tr.ofList, ih, Tr.at0_put0, List.length_cons]
    by_cases h1 : i = j
    · subst h1
      rw [if_neg (by omega), if_pos rfl, if_pos (by omega)]; simp
    · rw [if_neg h1]
      by_cases h2 : Nat.succ i ≤ j ∧ j < Nat.succ i + l.length
      · rw [if_pos h2, if_pos (by omega)]
        have : j - i = (j - Nat.succ i) + 1 := by omega
        rw [this]; simp
      · rw [if_neg h2, if_neg (by omega)]

end Go.Ev
