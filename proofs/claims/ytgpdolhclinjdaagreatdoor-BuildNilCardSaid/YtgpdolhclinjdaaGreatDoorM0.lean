set_option linter.unusedVariables false
set_option linter.unusedSimpArgs false
set_option linter.unusedSectionVars false
section
/- Binary tries over Nat: what is set is got again. No condition. -/
namespace Go.Md

inductive T (α : Type) where
  | nil | node (l : T α) (v : Option α) (r : T α)

namespace T
variable {α : Type}

noncomputable def get (t : T α) : Nat → Option α :=
  T.rec (motive := fun _ => Nat → Option α) (fun _ => none)
   (fun _ v _ gl gr n => Bool.rec (Bool.rec (gr (Nat.sub (Nat.div n 2) 1)) (gl (Nat.div n 2)) (Nat.beq (Nat.mod n 2) 1)) v (Nat.beq n 0)) t

noncomputable def sing (x : α) (f : Nat) : Nat → T α :=
  Nat.rec (motive := fun _ => Nat → T α) (fun _ => nil)
   (fun _ ih n => Bool.rec (Bool.rec (node nil none (ih (Nat.sub (Nat.div n 2) 1))) (node (ih (Nat.div n 2)) none nil) (Nat.beq (Nat.mod n 2) 1)) (node nil (some x) nil) (Nat.beq n 0)) f

noncomputable def set0 (t : T α) (n : Nat) (x : α) : T α :=
  T.rec (motive := fun _ => Nat → T α) (fun n => sing x (Nat.add n 1) n)
   (fun l v r sl sr n => Bool.rec (Bool.rec (node l v (sr (Nat.sub (Nat.div n 2) 1))) (node (sl (Nat.div n 2)) v r) (Nat.beq (Nat.mod n 2) 1)) (node l (some x) r) (Nat.beq n 0)) t n

/-- the same, the way down made whole before the answer is given: so that the kernel leaves nothing undone behind it -/
noncomputable def setK {R : Type} (t : T α) (n : Nat) (x : α) (k : T α → R) : R :=
  T.rec (motive := fun _ => Nat → (T α → R) → R) (fun n k => k (sing x (Nat.add n 1) n))
   (fun l v r sl sr n k => Bool.rec (Bool.rec (sr (Nat.sub (Nat.div n 2) 1) (fun r' => k (node l v r'))) (sl (Nat.div n 2) (fun l' => k (node l' v r))) (Nat.beq (Nat.mod n 2) 1)) (k (node l (some x) r)) (Nat.beq n 0)) t n k
noncomputable def set (t : T α) (n : Nat) (x : α) : T α := setK t n x (fun t => t)
theorem setK_eq {R : Type} (x : α) : ∀ (t : T α) (n : Nat) (k : T α → R), setK t n x k = k (set0 t n x)
  | nil, _, _ => rfl
  | node l v r, n, k => by
    show @Bool.rec (fun _ => R) (@Bool.rec (fun _ => R) (setK r (Nat.sub (Nat.div n 2) 1) x (fun r' => k (node l v r'))) (setK l (Nat.div n 2) x (fun l' => k (node l' v r))) (Nat.beq (Nat.mod n 2) 1)) (k (node l (some x) r)) (Nat.beq n 0) =
      k (@Bool.rec (fun _ => T α) (@Bool.rec (fun _ => T α) (node l v (set0 r (Nat.sub (Nat.div n 2) 1) x)) (node (set0 l (Nat.div n 2) x) v r) (Nat.beq (Nat.mod n 2) 1)) (node l (some x) r) (Nat.beq n 0))
    cases Nat.beq n 0 with
    | true => rfl
    | false => cases Nat.beq (Nat.mod n 2) 1 with
      | true => exact setK_eq x l _ _
      | false => exact setK_eq x r _ _
theorem set_eq0 (t : T α) (n : Nat) (x : α) : t.set n x = t.set0 n x := setK_eq x t n _

noncomputable def del (t : T α) (n : Nat) : T α :=
  T.rec (motive := fun _ => Nat → T α) (fun _ => nil)
   (fun l v r sl sr n => Bool.rec (Bool.rec (node l v (sr (Nat.sub (Nat.div n 2) 1))) (node (sl (Nat.div n 2)) v r) (Nat.beq (Nat.mod n 2) 1)) (node l none r) (Nat.beq n 0)) t n

theorem get_nil (n : Nat) : (nil : T α).get n = none := rfl
theorem get_node (l r : T α) (v : Option α) (n : Nat) : (node l v r).get n = if n = 0 then v else if n % 2 = 1 then l.get (n / 2) else r.get (n / 2 - 1) := by
  show @Bool.rec (fun _ => Option α) (@Bool.rec (fun _ => Option α) (r.get (n / 2 - 1)) (l.get (n / 2)) (Nat.beq (n % 2) 1)) v (Nat.beq n 0) = _
  by_cases h : n = 0
  · simp [h]
  · have h0 : Nat.beq n 0 = false := by cases e : Nat.beq n 0 with | false => rfl | true => exact absurd (Nat.eq_of_beq_eq_true e) h
    by_cases h2 : n % 2 = 1
    · simp [h0, h, h2]
    · have h1 : Nat.beq (n % 2) 1 = false := by cases e : Nat.beq (n % 2) 1 with | false => rfl | true => exact absurd (Nat.eq_of_beq_eq_true e) h2
      simp [h0, h, h2, h1]

theorem set_nil (n : Nat) (x : α) : (nil : T α).set n x = sing x (n + 1) n := rfl
theorem set_node (l r : T α) (v : Option α) (n : Nat) (x : α) : (node l v r).set n x = if n = 0 then node l (some x) r else if n % 2 = 1 then node (l.set (n / 2) x) v r else node l v (r.set (n / 2 - 1) x) := by
  rw [set_eq0, set_eq0, set_eq0]
  show @Bool.rec (fun _ => T α) (@Bool.rec (fun _ => T α) (node l v (r.set0 (n / 2 - 1) x)) (node (l.set0 (n / 2) x) v r) (Nat.beq (n % 2) 1)) (node l (some x) r) (Nat.beq n 0) = _
  by_cases h : n = 0
  · simp [h]
  · have h0 : Nat.beq n 0 = false := by cases e : Nat.beq n 0 with | false => rfl | true => exact absurd (Nat.eq_of_beq_eq_true e) h
    by_cases h2 : n % 2 = 1
    · simp [h0, h, h2]
    · have h1 : Nat.beq (n % 2) 1 = false := by cases e : Nat.beq (n % 2) 1 with | false => rfl | true => exact absurd (Nat.eq_of_beq_eq_true e) h2
      simp [h0, h, h2, h1]
theorem del_nil (n : Nat) : (nil : T α).del n = nil := rfl
theorem del_node (l r : T α) (v : Option α) (n : Nat) : (node l v r).del n = if n = 0 then node l none r else if n % 2 = 1 then node (l.del (n / 2)) v r else node l v (r.del (n / 2 - 1)) := by
  show @Bool.rec (fun _ => T α) (@Bool.rec (fun _ => T α) (node l v (r.del (n / 2 - 1))) (node (l.del (n / 2)) v r) (Nat.beq (n % 2) 1)) (node l none r) (Nat.beq n 0) = _
  by_cases h : n = 0
  · simp [h]
  · have h0 : Nat.beq n 0 = false := by cases e : Nat.beq n 0 with | false => rfl | true => exact absurd (Nat.eq_of_beq_eq_true e) h
    by_cases h2 : n % 2 = 1
    · simp [h0, h, h2]
    · have h1 : Nat.beq (n % 2) 1 = false := by cases e : Nat.beq (n % 2) 1 with | false => rfl | true => exact absurd (Nat.eq_of_beq_eq_true e) h2
      simp [h0, h, h2, h1]

theorem sing_succ (x : α) (f n : Nat) : sing x (f + 1) n = if n = 0 then node nil (some x) nil else if n % 2 = 1 then node (sing x f (n / 2)) none nil else node nil none (sing x f (n / 2 - 1)) := by
  show @Bool.rec (fun _ => T α) (@Bool.rec (fun _ => T α) (node nil none (sing x f (n / 2 - 1))) (node (sing x f (n / 2)) none nil) (Nat.beq (n % 2) 1)) (node nil (some x) nil) (Nat.beq n 0) = _
  by_cases h : n = 0
  · simp [h]
  · have h0 : Nat.beq n 0 = false := by cases e : Nat.beq n 0 with | false => rfl | true => exact absurd (Nat.eq_of_beq_eq_true e) h
    by_cases h2 : n % 2 = 1
    · simp [h0, h, h2]
    · have h1 : Nat.beq (n % 2) 1 = false := by cases e : Nat.beq (n % 2) 1 with | false => rfl | true => exact absurd (Nat.eq_of_beq_eq_true e) h2
      simp [h0, h, h2, h1]

theorem get_sing (x : α) : ∀ (f n m : Nat), n < f → (sing x f n).get m = if n = m then some x else none
  | 0, n, m, h => by omega
  | f + 1, n, m, h => by
    rw [sing_succ]
    by_cases hn : n = 0
    · subst hn
      simp only [if_true, get_node, get_nil]
      by_cases hm : m = 0
      · subst hm; simp
      · have : ¬ 0 = m := fun e => hm e.symm
        simp only [if_neg hm, if_neg this]; split <;> rfl
    · by_cases h2 : n % 2 = 1
      · simp only [if_neg hn, if_pos h2, get_node, get_nil]
        by_cases hm : m = 0
        · subst hm; simp [hn]
        · simp only [if_neg hm]
          by_cases hm2 : m % 2 = 1
          · simp only [if_pos hm2]
            rw [get_sing x f (n / 2) (m / 2) (by omega)]
            by_cases e : n = m
            · subst e; simp
            · rw [if_neg e, if_neg (by omega)]
          · simp only [if_neg hm2]
            rw [if_neg (by omega)]
      · simp only [if_neg hn, if_neg h2, get_node, get_nil]
        by_cases hm : m = 0
        · subst hm; simp [hn]
        · simp only [if_neg hm]
          by_cases hm2 : m % 2 = 1
          · simp only [if_pos hm2]
            rw [if_neg (by omega)]
          · simp only [if_neg hm2]
            rw [get_sing x f (n / 2 - 1) (m / 2 - 1) (by omega)]
            by_cases e : n = m
            · subst e; simp
            · rw [if_neg e, if_neg (by omega)]

theorem get_set (x : α) : ∀ (t : T α) (n m : Nat), (t.set n x).get m = if n = m then some x else t.get m
  | nil, n, m => by rw [set_nil, get_sing x _ _ _ (by omega), get_nil]
  | node l v r, n, m => by
    rw [set_node]
    by_cases hn : n = 0
    · subst hn
      simp only [if_true, get_node]
      by_cases hm : m = 0
      · subst hm; simp
      · have : ¬ 0 = m := fun e => hm e.symm
        simp only [if_neg hm, if_neg this]
    · by_cases h2 : n % 2 = 1
      · simp only [if_neg hn, if_pos h2, get_node]
        by_cases hm : m = 0
        · subst hm; simp [hn]
        · simp only [if_neg hm]
          by_cases hm2 : m % 2 = 1
          · simp only [if_pos hm2]
            rw [get_set x l (n / 2) (m / 2)]
            by_cases e : n = m
            · subst e; simp
            · rw [if_neg e, if_neg (by omega)]
          · simp only [if_neg hm2]
            rw [if_neg (by omega)]
      · simp only [if_neg hn, if_neg h2, get_node]
        by_cases hm : m = 0
        · subst hm; simp [hn]
        · simp only [if_neg hm]
          by_cases hm2 : m % 2 = 1
          · simp only [if_pos hm2]
            rw [if_neg (by omega)]
          · simp only [if_neg hm2]
            rw [get_set x r (n / 2 - 1) (m / 2 - 1)]
            by_cases e : n = m
            · subst e; simp
            · rw [if_neg e, if_neg (by omega)]

theorem get_del : ∀ (t : T α) (n m : Nat), (t.del n).get m = if n = m then none else t.get m
  | nil, n, m => by rw [del_nil, get_nil]; split <;> rfl
  | node l v r, n, m => by
    rw [del_node]
    by_cases hn : n = 0
    · subst hn
      simp only [if_true, get_node]
      by_cases hm : m = 0
      · subst hm; simp
      · have : ¬ 0 = m := fun e => hm e.symm
        simp only [if_neg hm, if_neg this]
    · by_cases h2 : n % 2 = 1
      · simp only [if_neg hn, if_pos h2, get_node]
        by_cases hm : m = 0
        · subst hm; simp [hn]
        · simp only [if_neg hm]
          by_cases hm2 : m % 2 = 1
          · simp only [if_pos hm2]
            rw [get_del l (n / 2) (m / 2)]
            by_cases e : n = m
            · subst e; simp
            · rw [if_neg e, if_neg (by omega)]
          · simp only [if_neg hm2]
            rw [if_neg (by omega)]
      · simp only [if_neg hn, if_neg h2, get_node]
        by_cases hm : m = 0
        · subst hm; simp [hn]
        · simp only [if_neg hm]
          by_cases hm2 : m % 2 = 1
          · simp only [if_pos hm2]
            rw [if_neg (by omega)]
          · simp only [if_neg hm2]
            rw [get_del r (n / 2 - 1) (m / 2 - 1)]
            by_cases e : n = m
            · subst e; simp
            · rw [if_neg e, if_neg (by omega)]

theorem get_set_same (t : T α) (n : Nat) (x : α) : (t.set n x).get n = some x := by rw [get_set, if_pos rfl]
theorem get_set_other (t : T α) {n m : Nat} (x : α) (h : n ≠ m) : (t.set n x).get m = t.get m := by rw [get_set, if_neg h]
end T
end Go.Md
end
