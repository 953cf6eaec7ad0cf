import Derived.Test.YtgpdolhclinjdaaGreatDoorM9
set_option linter.unusedVariables false
set_option linter.unusedSimpArgs false
set_option linter.unusedSectionVars false
section
/- SEGMENTS: the quiet operations of a segment, on both sides. No condition. -/
namespace Go.Md
variable {P : Program} {ft : FT} {B : Nat} {w0 w w' : World} {ρ ρ' : Rho} {h h' : T AO} {nx nx' : Nat}

theorem evalQs_nil (tm : T AV) (h : T AO) (env : List AV) : evalQs tm h [] env = some env := rfl
theorem evalQs_cons (tm : T AV) (h : T AO) (q : DQ) (qs : List DQ) (env : List AV) : evalQs tm h (q :: qs) env = match evalQ tm env h q with
    | some v => evalQs tm h qs (v :: env)
    | none => none := rfl

theorem regQs_mem {trk : Nat} {ops : Array Oper} : ∀ {qs : List DQ} {os : List Oper} {Δ : List (Option Nat)} {qs' : List DQ} {os' : List Oper} {Δ' : List (Option Nat)}, regQs P trk ops qs os Δ = some (qs', os', Δ') → ∀ d ∈ Δ, d ∈ Δ'
  | [], os, Δ, qs', os', Δ', hr, d, hd => by cases hr; exact hd
  | _ :: qs, [], Δ, qs', os', Δ', hr, d, hd => by cases hr
  | _ :: qs, o :: os, Δ, qs', os', Δ', hr, d, hd => by
    simp only [regQs] at hr
    split at hr
    · rename_i q r os2 Δ2 h1 h2
      cases hr
      exact regQs_mem h2 d (by simp [hd])
    · cases hr

theorem drop_cons {ops : Array Oper} {j : Nat} {o : Oper} {os : List Oper} (hd : o :: os = ops.toList.drop j) : ops[j]? = some o ∧ j < ops.size ∧ os = ops.toList.drop (j + 1) := by
  have h1 : (ops.toList.drop j)[0]? = some o := by rw [← hd]; rfl
  rw [List.getElem?_drop] at h1
  simp only [Nat.add_zero, Array.getElem?_toList] at h1
  refine ⟨h1, (Array.getElem?_eq_some_iff.1 h1).1, ?_⟩
  rw [← List.tail_drop, ← hd]
  rfl

theorem segQs_run (R : Rel P ft B w0 ρ h nx w) {n trk : Nat} {ops : Array Oper} {tm : T AV} (b : Frame) (k : List Item) (cs : List Frame) : ∀ (qs : List DQ) (j : Nat) (os : List Oper) (Δ : List (Option Nat)) (env : List AV) (a : Act) (qs' : List DQ) (os' : List Oper) (Δ' : List (Option Nat)),
    os = ops.toList.drop j → regQs P trk ops qs os Δ = some (qs', os', Δ') → EnvR ρ n trk tm Δ env a.tmps → (∀ t, some t ∈ Δ' → t < n) → ∀ env', evalQs tm h qs' env = some env' →
    ∃ a' j', os' = ops.toList.drop j' ∧ EnvR ρ n trk tm Δ' env' a'.tmps ∧ a'.defers = a.defers ∧
      Steps P (lone (b.atR a (.inRegion ops (upFrom ops j) :: k)) cs w) (lone (b.atR a' (.inRegion ops (upFrom ops j') :: k)) cs w)
  | [], j, os, Δ, env, a, qs', os', Δ', hos, hr, E, hlt, env', he => by
    cases hr
    rw [evalQs_nil] at he
    cases he
    exact ⟨a, j, hos, E, rfl, Steps.refl _ _⟩
  | _ :: qs, j, [], Δ, env, a, qs', os', Δ', hos, hr, E, hlt, env', he => by cases hr
  | _ :: qs, j, o :: os, Δ, env, a, qs', os', Δ', hos, hr, E, hlt, env', he => by
    simp only [regQs] at hr
    split at hr
    · rename_i q r os2 Δ2 h1 h2
      cases hr
      obtain ⟨ho, hj, hos'⟩ := drop_cons hos
      rw [evalQs_cons] at he
      split at he
      · rename_i v hv
        obtain ⟨u, hu, hs⟩ := q_step R ho h1 (fun _ _ _ x _ => E.xok R x) (fun _ _ _ _ _ => E.xok R _) hv b (upFrom ops (j + 1)) k cs
        have hd : ∀ t, o.dst = some t → t < n := fun t ht => hlt t (regQs_mem h2 _ (by simp [ht]))
        obtain ⟨a', j', e1, e2, e3, e4⟩ := segQs_run R b k cs qs (j + 1) os _ _ _ _ _ _ hos' h2 (E.push hd hu) hlt env' he
        refine ⟨a', j', e1, e2, e3.trans ?_, .head ?_ e4⟩
        · cases o.dst <;> rfl
        · rw [upFrom_lt hj]; exact hs
      · cases he
    · cases hr

theorem dstsOk_lt {n trk : Nat} : ∀ {Δ : List (Option Nat)}, dstsOk n trk Δ = true → ∀ t, some t ∈ Δ → t < n
  | [], _, t, ht => by cases ht
  | d :: r, h, t, ht => by
    simp only [dstsOk, Bool.and_eq_true] at h
    rcases List.mem_cons.1 ht with rfl | ht
    · have := h.1
      simp only [keepDst] at this
      split at this
      · assumption
      · cases this
    · exact dstsOk_lt h.2 t ht

theorem writeOuts_append (env : List AV) : ∀ (A B : List (Nat × Nat)) (tm : T AV), writeOuts tm env (A ++ B) = writeOuts (writeOuts tm env A) env B
  | [], _, _ => rfl
  | (t, j) :: A, B, tm => writeOuts_append env A B _
theorem outs_get {trk : Nat} {tm : T AV} {env : List AV} {t : Nat} (ht : trk.testBit t = true) : ∀ (Δ : List (Option Nat)) (k : Nat), (writeOuts tm env (outsOf trk Δ k)).get t = match idxOf t Δ k with
    | some j => some (nth env j)
    | none => tm.get t
  | [], k => rfl
  | none :: r, k => by simp only [outsOf, idxOf]; exact outs_get ht r (k + 1)
  | some u :: r, k => by
    simp only [outsOf, idxOf]
    by_cases e : u = t
    · subst e
      rw [if_pos ht, if_pos rfl, writeOuts_append]
      simp only [writeOuts]
      rw [T.get_set, if_pos rfl]
    · rw [if_neg e]
      split
      · rw [writeOuts_append]
        simp only [writeOuts]
        rw [T.get_set, if_neg e]
        exact outs_get ht r (k + 1)
      · exact outs_get ht r (k + 1)
theorem EnvR.outs {n trk : Nat} {tm : T AV} {Δ : List (Option Nat)} {env : List AV} {tmps : Array Value} (E : EnvR ρ n trk tm Δ env tmps) : TmAll ρ trk (writeOuts tm env (outsOf trk Δ 0)) tmps := by
  intro t v ht hv
  rw [outs_get ht] at hv
  split at hv
  · rename_i j hj
    cases hv
    exact E.new t j hj
  · rename_i hj
    exact E.old t v ht hj hv
theorem TmAll.env {n trk : Nat} {tm : T AV} {tmps : Array Value} (H : TmAll ρ trk tm tmps) (hs : n ≤ tmps.size) : EnvR ρ n trk tm [] [] tmps :=
  ⟨hs, fun t ht => (by cases ht), fun t j hj => (by cases hj), fun t v ht _ hv => H t v ht hv⟩

/-- a value kept in its temporary, on both sides -/
theorem TmAll.put {n trk : Nat} {tm : T AV} {a : Act} (H : TmAll ρ trk tm a.tmps) (hs : n ≤ a.tmps.size) {dst d : Option Nat} (hd : keepDst n trk dst = some d) {v : AV} {u : Value} (hu : VRel ρ v u) :
    TmAll ρ trk (match d with | none => tm | some t => tm.set t v) (a.put dst u).tmps := by
  cases dst with
  | none => cases hd; exact H
  | some t =>
    simp only [keepDst] at hd
    split at hd
    · rename_i hlt
      have hsz : t < a.tmps.size := by omega
      split at hd
      · cases hd
        intro s x hs' hx
        rw [T.get_set] at hx
        split at hx
        · rename_i e
          subst e
          cases hx
          simp only [Act.put, getD_set u hsz]
          exact hu
        · rename_i e
          simp only [Act.put, getD_set_other u e]
          exact H s x hs' hx
      · rename_i hnt
        cases hd
        intro s x hs' hx
        have e : t ≠ s := fun e => by subst e; exact hnt hs'
        simp only [Act.put, getD_set_other u e]
        exact H s x hs' hx
    · cases hd
end Go.Md
end
section
/- WHAT AN OPERATION LOOKS AT. No condition. -/
namespace Go.Md
variable {P : Program} {ft : FT} {B : Nat} {w0 w w' : World} {ρ ρ' : Rho} {h h' : T AO} {nx nx' : Nat}

theorem compBuild_ops {P : Program} {fs : List Field} : ∀ {ps : List (Nat × Operand)} {l}, compBuild P fs ps = some l → True := fun _ => trivial

theorem compQ_operands {o : Op} {k : QK} {xs : List Operand} (hc : compQ P o = some (k, xs)) {t : Nat} (ht : Operand.tmp t ∈ xs) : Operand.tmp t ∈ o.operands.toList := by
  cases o <;> simp only [compQ] at hc
  all_goals try (cases hc; done)
  case move => cases hc; simpa [Op.operands] using ht
  case assign => cases hc; simpa [Op.operands] using ht
  case pick => cases hc; simpa [Op.operands] using ht
  case binOp op t' x y yt =>
    have : xs = [x, y] := by
      split at hc
      · split at hc
        · cases hc; rfl
        · cases hc; rfl
        · obtain ⟨_, _, h⟩ := Option.map_eq_some_iff.1 hc; cases h; rfl
      · cases hc; rfl
    subst this; simpa [Op.operands] using ht
  case unOp => cases hc; simpa [Op.operands] using ht
  case convert s d x =>
    have : xs = [x] := by
      unfold compConv at hc
      split at hc
      · cases hc; rfl
      · cases hc; rfl
      · split at hc
        · cases hc; rfl
        · cases hc
      · cases hc
    subst this; simpa [Op.operands] using ht
  case makeInterface t' x =>
    have : xs = [x] := by
      split at hc
      · cases hc
      · cases hc; rfl
      · cases hc
    subst this; simpa [Op.operands] using ht
  case makeFunc fn first cap =>
    cases fn <;> simp only at hc <;> try (cases hc; done)
    cases hc
    simpa [Op.operands] using ht
  case build t' parts =>
    have : xs = parts.toList.map (·.2) := by
      split at hc
      · split at hc
        · obtain ⟨_, _, h⟩ := Option.map_eq_some_iff.1 hc; cases h; rfl
        · cases hc
      · obtain ⟨_, _, h⟩ := Option.map_eq_some_iff.1 hc; cases h; rfl
      · cases hc
    subst this; simpa [Op.operands] using ht
  case load t' a =>
    have : xs = [a] := by
      split at hc
      · obtain ⟨_, _, h⟩ := Option.map_eq_some_iff.1 hc; cases h; rfl
      · split at hc
        · cases hc; rfl
        · cases hc
    subst this; simpa [Op.operands] using ht
  case nilCheck => cases hc; simpa [Op.operands] using ht
  case fieldAddr t' a i =>
    have : xs = [a] := by
      split at hc
      · split at hc
        · split at hc
          · cases hc; rfl
          · cases hc
        · cases hc
      · cases hc
    subst this; simpa [Op.operands] using ht
  case field t' a i =>
    have : xs = [a] := by
      split at hc
      · split at hc
        · split at hc
          · obtain ⟨_, _, h⟩ := Option.map_eq_some_iff.1 hc; cases h; rfl
          · split at hc
            · cases hc; rfl
            · cases hc
        · cases hc
      · cases hc
    subst this; simpa [Op.operands] using ht
  case indexAddr t' a i =>
    have : xs = [a, i] := by
      split at hc
      · obtain ⟨_, _, h⟩ := Option.map_eq_some_iff.1 hc; cases h; rfl
      · obtain ⟨_, _, h⟩ := Option.map_eq_some_iff.1 hc; cases h; rfl
      · cases hc
    subst this; simpa [Op.operands] using ht
  case index t' a i =>
    have : xs = [a, i] := by
      split at hc
      · cases hc; rfl
      · cases hc
    subst this; simpa [Op.operands] using ht
  case slice t' x lo hi mx =>
    have : xs = x :: (lo.toList ++ hi.toList ++ mx.toList) := by
      unfold compSlice at hc
      simp only at hc
      split at hc
      · split at hc
        · cases hc
        · obtain ⟨_, _, h⟩ := Option.map_eq_some_iff.1 hc; cases h; rfl
      · split at hc
        · cases hc
        · obtain ⟨_, _, h⟩ := Option.map_eq_some_iff.1 hc; cases h; rfl
      · split at hc
        · cases hc
        · rename_i hm
          cases hc
          cases mx <;> simp at hm ⊢
      · cases hc
    subst this
    cases lo <;> cases hi <;> cases mx <;> simpa [Op.operands] using ht
  case lookup t' m k' ok =>
    have : xs = [m, k'] := by
      split at hc
      · split at hc
        · cases hc; rfl
        · cases hc
      · cases hc
    subst this; simpa [Op.operands] using ht
  case extract => cases hc; simpa [Op.operands] using ht
  case entry => cases hc; simpa [Op.operands] using ht
  case call c =>
    have key : ∀ x ∈ xs, x ∈ c.args.toList ∨ ∃ v, x = .const v := by
      unfold compCallQ at hc
      split at hc
      · split at hc
        · rename_i t' x hat hx
          split at hc
          · cases hc; intro y hy; simp at hy; exact .inr ⟨_, hy⟩
          all_goals try (cases hc; done)
          all_goals (cases hc; intro y hy; simp at hy; subst hy; left; rw [hx]; simp)
        · cases hc
      · cases hc; exact fun x hx => .inl hx
      · cases hc; exact fun x hx => .inl hx
      · split at hc
        · cases hc; exact fun x hx => .inl hx
        · cases hc
      · cases hc
    rcases key _ ht with h1 | ⟨v, h1⟩
    · simp only [Op.operands, Call.operands, Array.toList_append]
      exact List.mem_append.2 (.inr h1)
    · cases h1

theorem compS_operands {o : Op} {k : SK} {xs : List Operand} (hc : compS P o = some (k, xs)) {t : Nat} (ht : Operand.tmp t ∈ xs) : Operand.tmp t ∈ o.operands.toList := by
  cases o <;> simp only [compS] at hc
  all_goals try (cases hc; done)
  case convert s d x =>
    have : xs = [x] := by
      split at hc
      · split at hc
        · cases hc; rfl
        · cases hc
      · split at hc
        · cases hc; rfl
        · cases hc
      · cases hc
    subst this; simpa [Op.operands] using ht
  case alloc e => obtain ⟨_, _, h⟩ := Option.map_eq_some_iff.1 hc; cases h; cases ht
  case box e x => cases hc; simpa [Op.operands] using ht
  case buildSlice t' n parts =>
    have : xs = parts.toList.map (·.2) := by
      split at hc
      · split at hc
        · split at hc
          · cases hc; rfl
          · cases hc
        · cases hc
      · cases hc
    subst this; simpa [Op.operands] using ht
  case store t' a x => obtain ⟨_, _, h⟩ := Option.map_eq_some_iff.1 hc; cases h; simpa [Op.operands] using ht
  case mapUpdate t' m k' x =>
    have : xs = [m, k', x] := by
      split at hc
      · obtain ⟨_, _, h⟩ := Option.map_eq_some_iff.1 hc; cases h; rfl
      · cases hc
    subst this; simpa [Op.operands] using ht
  case insert t' m k' x =>
    have : xs = [m, k', x] := by
      split at hc
      · obtain ⟨_, _, h⟩ := Option.map_eq_some_iff.1 hc; cases h; rfl
      · cases hc
    subst this; simpa [Op.operands] using ht
  case makeMap t' r =>
    have : xs = r.toList := by
      split at hc
      · obtain ⟨_, _, h⟩ := Option.map_eq_some_iff.1 hc; cases h; rfl
      · cases hc
    subst this
    cases r <;> first | (simp [Op.operands] at ht; done) | simpa [Op.operands] using ht
  case makeSlice t' l c =>
    have : xs = [l, c] := by
      split at hc
      · split at hc
        · cases hc; rfl
        · cases hc
      · cases hc
    subst this; simpa [Op.operands] using ht
  case range t' x =>
    have : xs = [x] := by
      split at hc
      · cases hc; rfl
      · cases hc
    subst this; simpa [Op.operands] using ht
  case call c =>
    have key : xs = c.args.toList := by
      unfold compCallS at hc
      split at hc
      · split at hc
        · rename_i t1 t2 s x hat hx
          split at hc
          · split at hc
            · split at hc
              · cases hc; exact hx.symm
              · cases hc
            · cases hc; exact hx.symm
            · split at hc
              · cases hc; exact hx.symm
              · cases hc
            · cases hc
          · cases hc
        · cases hc
      · split at hc
        · rename_i t1 d s hat hx
          split at hc
          · obtain ⟨_, _, h⟩ := Option.map_eq_some_iff.1 hc; cases h; exact hx.symm
          · cases hc
        · cases hc
      · split at hc
        · rename_i t1 d s hat hx
          split at hc
          · obtain ⟨_, _, h⟩ := Option.map_eq_some_iff.1 hc; cases h; exact hx.symm
          · cases hc
        · cases hc
      · cases hc
    subst key
    simp only [Op.operands, Call.operands, Array.toList_append]
    exact List.mem_append.2 (.inr ht)

theorem mem_looks {ops : Array Oper} {o : Oper} {t : Nat} : t ∈ looks ops o ↔ Operand.tmp t ∈ o.op.operands.toList ∨ ∃ g w, o.guard = some (g, w) ∧ dstOf ops g = some t := by
  unfold looks
  simp only [List.mem_append, List.mem_filterMap]
  constructor
  · rintro (⟨x, h1, h2⟩ | h)
    · left
      cases x <;> simp at h2
      subst h2; exact h1
    · right
      cases hg : o.guard with
      | none => rw [hg] at h; cases h
      | some gw =>
        obtain ⟨g, w⟩ := gw
        rw [hg] at h
        exact ⟨g, w, rfl, by simpa using h⟩
  · rintro (h | ⟨g, w, h1, h2⟩)
    · exact .inl ⟨_, h, rfl⟩
    · right
      rw [h1]
      simpa using h2

/-- what a quiet operation says hangs on the temporaries that it looks at -/
theorem mapXs_congr {trk : Nat} {tm tm' : T AV} : ∀ {xs : List Operand} {ds : List DX}, mapXs P trk [] xs = some ds → (∀ t, Operand.tmp t ∈ xs → tm'.get t = tm.get t) → evalXs tm' [] ds = evalXs tm [] ds
  | [], ds, hm, _ => by cases hm; rfl
  | x :: xs, ds, hm, he => by
    simp only [mapXs] at hm
    split at hm
    · rename_i d r h1 h2
      cases hm
      have e1 : evalX tm' [] d = evalX tm [] d := by
        cases x with
        | tmp t =>
          simp only [mapX, idxOf] at h1
          split at h1
          · cases h1; exact he t (by simp)
          · cases h1
        | const c => simp only [mapX, Option.map_eq_some_iff] at h1; obtain ⟨_, _, rfl⟩ := h1; rfl
        | global g =>
          simp only [mapX] at h1
          split at h1
          · cases h1; rfl
          · cases h1
        | func f => cases h1; rfl
      simp only [evalXs, e1, mapXs_congr h2 fun t ht => he t (by simp [ht])]
    · cases hm
theorem evalQ_congr {trk : Nat} {ops : Array Oper} {o : Oper} {q : DQ} (hq : regQ P trk ops [] o = some q) {tm tm' : T AV} (he : ∀ t ∈ looks ops o, tm'.get t = tm.get t) (h : T AO) : evalQ tm' [] h q = evalQ tm [] h q := by
  unfold regQ at hq
  split at hq
  · rename_i k xs hc
    split at hq
    · rename_i ds g h1 h2
      cases hq
      have e1 := mapXs_congr h1 fun t ht => he t (mem_looks.2 (.inl (compQ_operands hc ht)))
      have e2 : guardOk tm' [] g = guardOk tm [] g := by
        cases hg : o.guard with
        | none => rw [hg] at h2; cases h2; rfl
        | some jw =>
          obtain ⟨j, w⟩ := jw
          rw [hg] at h2
          simp only [regG] at h2
          split at h2
          · rename_i t ht
            obtain ⟨dx, h3, h4⟩ := Option.map_eq_some_iff.1 h2
            subst h4
            have ht' := he t (mem_looks.2 (.inr ⟨j, w, hg, ht⟩))
            simp only [mapX, idxOf] at h3
            split at h3
            · cases h3
              simp only [guardOk, evalX, ht']
            · cases h3
          · cases h2
      simp only [evalQ, e1, e2]
    · cases hq
  · cases hq
theorem evalQ_pure {q : DQ} (hp : pureK q.k = true) (tm : T AV) (env : List AV) (h h' : T AO) : evalQ tm env h q = evalQ tm env h' q := by
  unfold evalQ
  have : ∀ vs, qop q.k vs h = qop q.k vs h' := by
    intro vs
    cases hk : q.k <;> rw [hk] at hp <;> first | (cases hp; done) | rfl
  simp only [this]
end Go.Md
end
section
/- REGIONS THAT DRAW THEIR ORDER: the model runs them in the drawn order, D in its own; what holds between. No condition. -/
namespace Go.Md
variable {U : List (Nat × Nat)} {P : Program} {ft : FT} {B : Nat} {w0 w w' : World} {ρ ρ' : Rho} {h h' : T AO} {nx nx' : Nat}

/-- a quiet operation that D has done and the model has not -/
def Pend (P : Program) (n trk : Nat) (ops : Array Oper) (done : List Nat) (tm : T AV) (ok : Nat → DQ → AV → Prop) (i : Nat) : Prop :=
  ∃ o q d v, ops[i]? = some o ∧ o.dst = some d ∧ d < n ∧ trk.testBit d = true ∧ regQ P trk ops [] o = some q ∧ tm.get d = some v ∧ ok d q v ∧ dataOk ops i = true ∧ hazard ops i = false ∧ distinctOk ops i = true ∧ ∀ p ∈ preds ops i, p ∈ done

/-- a comes ahead of b -/
def Bef (ord : List Nat) (a b : Nat) : Prop := ∃ X Y, ord = X ++ a :: Y ∧ b ∈ Y

structure DInv (P : Program) (ρ : Rho) (n trk : Nat) (ops : Array Oper) (U : List (Nat × Nat)) (done : List Nat) (l : List DI) (rest : List Nat) (tm : T AV) (tmps : Array Value) (ok : Nat → DQ → AV → Prop) : Prop where
  reg : regDr P n trk ops U done l = some l
  hac : ∀ i, i < ops.size → ∀ p ∈ preds ops i, p < i
  cover : ∀ i, i < ops.size → i ∈ done ∨ i ∈ l.map DI.ix
  ord : ∃ pre, Lin ops (pre ++ rest) ∧ (pre ++ rest).length = ops.size ∧ ∀ p ∈ U, Bef (pre ++ rest) p.1 p.2
  sub : ∀ i, i < ops.size → i ∉ rest → i ∈ done
  pend : ∀ i, i ∈ rest → i ∈ done → Pend P n trk ops done tm ok i
  tm : ∀ t v, trk.testBit t = true → tm.get t = some v → (∀ i, i ∈ rest → i ∈ done → dstOf ops i ≠ some t) → VRel ρ v (tmps.getD t undef)
  size : n ≤ tmps.size

theorem DInv.mono {n trk : Nat} {ops : Array Oper} {done : List Nat} {l : List DI} {rest : List Nat} {tm : T AV} {tmps : Array Value} {ok : Nat → DQ → AV → Prop} (hr : ρ.le ρ') (D : DInv P ρ n trk ops U done l rest tm tmps ok) : DInv P ρ' n trk ops U done l rest tm tmps ok :=
  ⟨D.reg, D.hac, D.cover, D.ord, D.sub, D.pend, fun t v h1 h2 h3 => (D.tm t v h1 h2 h3).mono hr, D.size⟩

theorem dstOf_eq {ops : Array Oper} {i : Nat} {o : Oper} (ho : ops[i]? = some o) : dstOf ops i = o.dst := by simp [dstOf, ho]

theorem dataOk_spec {ops : Array Oper} {i : Nat} {o : Oper} (ho : ops[i]? = some o) (hd : dataOk ops i = true) {t : Nat} (ht : t ∈ looks ops o) {j : Nat} (hj : j < ops.size) (hdst : dstOf ops j = some t) :
    j ∈ preds ops i ∨ (hazard ops j = true ∧ i ∈ preds ops j) := by
  unfold dataOk at hd
  rw [ho] at hd
  simp only [List.all_eq_true, List.mem_range, Bool.or_eq_true, bne_iff_ne, ne_eq, Bool.and_eq_true, List.contains_iff_mem] at hd
  have := hd t ht j hj
  rcases this with (h1 | h1) | h1
  · exact absurd hdst h1
  · exact .inl h1
  · exact .inr h1
theorem hazard_spec {ops : Array Oper} {i : Nat} (hh : hazard ops i = false) {j : Nat} {o : Oper} (ho : ops[j]? = some o) {t : Nat} (ht : t ∈ looks ops o) (hdst : dstOf ops i = some t) : i ∈ preds ops j := by
  unfold hazard at hh
  rw [List.any_eq_false] at hh
  have := hh j (List.mem_range.2 (Array.getElem?_eq_some_iff.1 ho).1)
  rw [ho] at this
  simp only [Bool.and_eq_true, Bool.not_eq_true', List.any_eq_true, beq_iff_eq, not_and, not_exists] at this
  apply Classical.byContradiction
  intro hn
  have hc : (preds ops j).contains i = false := by
    cases hb : (preds ops j).contains i with
    | false => rfl
    | true => exact absurd (List.contains_iff_mem.1 hb) hn
  exact this hc t ht hdst
theorem distinct_spec {ops : Array Oper} {i : Nat} (hd : distinctOk ops i = true) {j : Nat} (hj : j < ops.size) (hne : j ≠ i) {t : Nat} (ht : dstOf ops i = some t) : dstOf ops j ≠ some t := by
  unfold distinctOk at hd
  simp only [List.all_eq_true, List.mem_range, Bool.or_eq_true, beq_iff_eq, bne_iff_ne, ne_eq, Option.isNone_iff_eq_none] at hd
  rcases hd j hj with (h1 | h1) | h1
  · exact absurd h1 hne
  · rw [ht] at h1; cases h1
  · rw [ht] at h1; exact h1

theorem Lin.before {ops : Array Oper} {pre rest : List Nat} {j : Nat} (L : Lin ops (pre ++ j :: rest)) {p : Nat} (hp : p ∈ preds ops j) : p ∈ pre ∧ p ∉ j :: rest := by
  have h1 := L.pre pre j rest rfl p hp
  refine ⟨h1, fun h2 => ?_⟩
  exact (List.nodup_append.1 L.nodup).2.2 p h1 p h2 rfl

/-- operands of the next operation are those of D -/
theorem DInv.xok {n trk : Nat} {ops : Array Oper} {done : List Nat} {l : List DI} {j : Nat} {rest : List Nat} {tm : T AV} {a : Act} {ok : Nat → DQ → AV → Prop} (D : DInv P ρ n trk ops U done l (j :: rest) tm a.tmps ok) (R : Rel P ft B w0 ρ h nx w)
    {o : Oper} (ho : ops[j]? = some o) (hd : dataOk ops j = true) {x : Operand} (hx : ∀ t, x = .tmp t → t ∈ looks ops o) : XOk P ρ trk tm [] [] a x := by
  by_cases ht : ∃ t, x = .tmp t
  · obtain ⟨t, rfl⟩ := ht
    intro dx v hm hv
    simp only [mapX, idxOf] at hm
    split at hm
    · rename_i htr
      cases hm
      refine D.tm t v htr hv fun i hi hdone hdst => ?_
      obtain ⟨pre, L, _⟩ := D.ord
      obtain ⟨o', q, d, v', p1, p2, _, _, _, _, _, _, p9, _, _⟩ := D.pend i hi hdone
      have hisz : i < ops.size := (Array.getElem?_eq_some_iff.1 p1).1
      rcases dataOk_spec ho hd (hx t rfl) hisz hdst with h1 | ⟨h1, _⟩
      · exact (L.before h1).2 hi
      · rw [p9] at h1; cases h1
    · cases hm
  · exact xok_plain R fun t e => ht ⟨t, e⟩

/-- the model runs what D has done -/
theorem DInv.runs {n trk : Nat} {ops : Array Oper} {done : List Nat} {l : List DI} {tm : T AV} (b : Frame) (k : List Item) (cs : List Frame) (R : Rel P ft B w0 ρ h nx w) (C : List Nat) : ∀ (A : List Nat) (a : Act),
    DInv P ρ n trk ops U done l (A ++ C) tm a.tmps (fun _ q v => evalQ tm [] h q = some v) → (∀ i ∈ A, i ∈ done) →
    ∃ a', DInv P ρ n trk ops U done l C tm a'.tmps (fun _ q v => evalQ tm [] h q = some v) ∧ a'.defers = a.defers ∧ Steps P (lone (b.atR a (.inRegion ops (A ++ C) :: k)) cs w) (lone (b.atR a' (.inRegion ops C :: k)) cs w)
  | [], a, D, _ => ⟨a, D, rfl, Steps.refl _ _⟩
  | j :: A, a, D, hA => by
    have hj : j ∈ done := hA j (by simp)
    obtain ⟨o, q, d, v, p1, p2, p3, p4, p5, p6, p7, p8, p9, p10, p11⟩ := D.pend j (by simp) hj
    obtain ⟨u, hu, hs⟩ := q_step R p1 p5 (fun k xs hc x hx => D.xok R p1 p8 fun t e => by subst e; exact mem_looks.2 (.inl (compQ_operands hc hx)))
      (fun g w t hg ht => D.xok R p1 p8 fun t' e => by cases e; exact mem_looks.2 (.inr ⟨g, w, hg, ht⟩)) p7 b (A ++ C) k cs
    have hdj := dstOf_eq p1
    rw [p2] at hdj
    have hsz : d < a.tmps.size := Nat.lt_of_lt_of_le p3 D.size
    obtain ⟨pre, L, hL⟩ := D.ord
    have D' : DInv P ρ n trk ops U done l (A ++ C) tm (a.put o.dst u).tmps (fun _ q v => evalQ tm [] h q = some v) := by
      refine ⟨D.reg, D.hac, D.cover, ⟨pre ++ [j], by simpa using L, by simpa using hL⟩, fun i h1 h2 => ?_, fun i hi => D.pend i (by simp at hi ⊢; exact .inr hi), fun t x h1 h2 h3 => ?_, by rw [p2]; simpa [Act.put] using D.size⟩
      · by_cases e : i = j
        · rw [e]; exact hj
        · exact D.sub i h1 (by simp at h2 ⊢; exact ⟨e, h2⟩)
      · rw [p2]
        by_cases e : d = t
        · subst e
          rw [p6] at h2; cases h2
          simp only [Act.put, getD_set u hsz]
          exact hu
        · simp only [Act.put, getD_set_other u e]
          refine D.tm t x h1 h2 fun i hi hd => ?_
          have hi' : i = j ∨ i ∈ A ++ C := by simpa using hi
          rcases hi' with rfl | hi'
          · rw [hdj]; exact fun e2 => e (by cases e2; rfl)
          · exact h3 i hi' hd
    obtain ⟨a', h1, h2, h3⟩ := DInv.runs b k cs R C A _ D' fun i hi => hA i (by simp [hi])
    exact ⟨a', h1, h2.trans (by rw [p2]; rfl), .head hs h3⟩

/-- D does a quiet one -/
theorem DInv.quiet {n trk : Nat} {ops : Array Oper} {done : List Nat} {i d0 : Nat} {q0 : DQ} {l : List DI} {rest : List Nat} {tm : T AV} {tmps : Array Value} (D : DInv P ρ n trk ops U done (.q i d0 q0 :: l) rest tm tmps (fun _ q v => evalQ tm [] h q = some v)) {v : AV} (hv : evalQ tm [] h q0 = some v) :
    DInv P ρ n trk ops U (i :: done) l rest (tm.set d0 v) tmps (fun _ q x => evalQ (tm.set d0 v) [] h q = some x) := by
  have hreg := D.reg
  simp only [regDr] at hreg
  split at hreg
  · rename_i hc
    simp only [Bool.and_eq_true, Bool.not_eq_true', List.all_eq_true, List.contains_iff_mem] at hc
    obtain ⟨⟨⟨⟨c1, c2⟩, c3⟩, c4⟩, c5⟩ := hc
    have c1' : i ∉ done := fun hm => by rw [List.contains_iff_mem.2 hm] at c1; cases c1
    split at hreg
    · rename_i o ho
      split at hreg
      · rename_i d q l' hk hq hl
        simp only [Option.some.injEq, List.cons.injEq, DI.q.injEq, true_and] at hreg
        obtain ⟨⟨rfl, rfl⟩, rfl⟩ := hreg
        have hisz : i < ops.size := (Array.getElem?_eq_some_iff.1 ho).1
        have hdst : o.dst = some d ∧ d < n ∧ trk.testBit d = true := by
          cases hd : o.dst with
          | none => rw [hd] at hk; cases hk
          | some t =>
            rw [hd] at hk
            simp only [keepDst] at hk
            split at hk
            · split at hk
              · cases hk; exact ⟨rfl, by assumption, by assumption⟩
              · cases hk
            · cases hk
        have hdi := dstOf_eq ho
        rw [hdst.1] at hdi
        have hirest : i ∈ rest := Classical.byContradiction fun hn => c1' (D.sub i hisz hn)
        -- those that look at the new one are behind it
        have nolook : ∀ j o', ops[j]? = some o' → (∀ p ∈ preds ops j, p ∈ done) → d ∉ looks ops o' := by
          intro j o' ho' hp hl
          exact c1' (hp i (hazard_spec c5 ho' hl hdi))
        refine ⟨hl, D.hac, fun j hj => ?_, D.ord, fun j h1 h2 => by simp [D.sub j h1 h2], fun j hj hd => ?_, fun t x h1 h2 h3 => ?_, D.size⟩
        · rcases D.cover j hj with h1 | h1
          · exact .inl (by simp [h1])
          · simp only [List.map_cons, List.mem_cons, DI.ix] at h1
            rcases h1 with h1 | h1
            · exact .inl (by simp [h1])
            · exact .inr h1
        · by_cases e : j = i
          · subst e
            refine ⟨o, q, d, v, ho, hdst.1, hdst.2.1, hdst.2.2, hq, by rw [T.get_set, if_pos rfl], ?_, c3, c5, c4, fun p hp => by simp [c2 p hp]⟩
            show evalQ (tm.set d v) [] h q = some v
            rw [evalQ_congr hq (tm := tm) (fun t ht => ?_)]
            · exact hv
            · rw [T.get_set, if_neg]
              intro e2; subst e2
              exact nolook j o ho c2 ht
          · have hd' : j ∈ done := by simpa [e] using hd
            obtain ⟨o', q', d', v', p1, p2, p3, p4, p5, p6, p7, p8, p9, p10, p11⟩ := D.pend j hj hd'
            have hne : d ≠ d' := by
              intro e2; subst e2
              have := distinct_spec c4 (Array.getElem?_eq_some_iff.1 p1).1 e hdi
              rw [dstOf_eq p1] at this
              exact this p2
            refine ⟨o', q', d', v', p1, p2, p3, p4, p5, by rw [T.get_set, if_neg hne]; exact p6, ?_, p8, p9, p10, fun p hp => by simp [p11 p hp]⟩
            show evalQ (tm.set d v) [] h q' = some v'
            rw [evalQ_congr p5 (tm := tm) (fun t ht => ?_)]
            · exact p7
            · rw [T.get_set, if_neg]
              intro e2; subst e2
              exact nolook j o' p1 p11 ht
        · have hne : d ≠ t := fun e => by subst e; exact h3 i hirest (by simp) hdi
          rw [T.get_set, if_neg hne] at h2
          exact D.tm t x h1 h2 fun j hj hd => h3 j hj (by simp [hd])
      · cases hreg
    · cases hreg
  · cases hreg
end Go.Md
end
section
/- REGIONS THAT DRAW THEIR ORDER: the operations that write, call, make. No condition. -/
namespace Go.Md
variable {U : List (Nat × Nat)} {P : Program} {ft : FT} {B : Nat} {w0 w w' : World} {ρ ρ' : Rho} {h h' : T AO} {nx nx' : Nat}

structure StrongOk (P : Program) (n trk : Nat) (ops : Array Oper) (U : List (Nat × Nat)) (done : List Nat) (i : Nat) (f : Fin) (re : List (Nat × DQ)) (l : List DI) (o : Oper) : Prop where
  new : i ∉ done
  pre : ∀ p ∈ preds ops i, p ∈ done
  data : dataOk ops i = true
  dist : distinctOk ops i = true
  down : downOk ops U [i] (l.map DI.ix) = true
  reok : isQs f = true ∨ reOk P ops i done re = true
  op : ops[i]? = some o
  dst : keepDst n trk o.dst = some o.dst
  fin : regFin P n trk ops [] o f = some f
  regre : regRe P trk ops re = some re
  rest : regDr P n trk ops U (i :: done) l = some l

theorem regDr_s {n trk : Nat} {ops : Array Oper} {done : List Nat} {i : Nat} {f : Fin} {re : List (Nat × DQ)} {l : List DI} (hr : regDr P n trk ops U done (.s i f re :: l) = some (.s i f re :: l)) : ∃ o, StrongOk P n trk ops U done i f re l o := by
  simp only [regDr] at hr
  split at hr
  · rename_i hc
    simp only [Bool.and_eq_true, Bool.not_eq_true', List.all_eq_true, List.contains_iff_mem] at hc
    obtain ⟨⟨⟨⟨⟨c1, c2⟩, c3⟩, c4⟩, c5⟩, c6⟩ := hc
    have c1' : i ∉ done := fun hm => by rw [List.contains_iff_mem.2 hm] at c1; cases c1
    have c6' : isQs f = true ∨ reOk P ops i done re = true := by
      simp only [Bool.or_eq_true, Bool.and_eq_true] at c6
      rcases c6 with c6 | c6
      · exact .inl c6
      · exact .inr c6.2
    split at hr
    · rename_i o ho
      split at hr
      · rename_i d hk
        split at hr
        · rename_i heq
          have hk' : keepDst n trk o.dst = some o.dst := by
            rw [hk]
            simpa using heq
          split at hr
          · rename_i f' re' l' h1 h2 h3
            split at hr
            · cases hr
            · simp only [Option.some.injEq, List.cons.injEq, DI.s.injEq, true_and] at hr
              obtain ⟨⟨rfl, rfl⟩, rfl⟩ := hr
              exact ⟨o, c1', c2, c3, c4, c5, c6', ho, hk', h1, h2, h3⟩
          · cases hr
        · cases hr
      · simp at hr
    · cases hr
  · cases hr

/-- what comes later in D's order comes later in the model's -/
theorem Bef.after {A C : List Nat} {i a y : Nat} (hn : (A ++ i :: C).Nodup) (hb : Bef (A ++ i :: C) a y) (ha : a = i ∨ a ∈ C) : y ∈ C := by
  obtain ⟨X, Y, e, hy⟩ := hb
  have hnA : a ∉ A := by
    intro hA
    rcases ha with rfl | hC
    · exact (List.nodup_append.1 hn).2.2 a hA a (by simp) rfl
    · exact (List.nodup_append.1 hn).2.2 a hA a (by simp [hC]) rfl
  rcases List.append_eq_append_iff.1 e with ⟨a', e1, e2⟩ | ⟨c', e1, e2⟩
  · cases a' with
    | nil => simp at e2; rw [e2.2]; exact hy
    | cons z a'' => simp at e2; rw [e2.2]; simp [hy]
  · cases c' with
    | nil => simp at e2; rw [← e2.2]; exact hy
    | cons z c'' => simp at e2; exact absurd (by rw [e1, e2.1]; simp) hnA
theorem down_after {ops : Array Oper} {A C : List Nat} {i : Nat} (L : Lin ops (A ++ i :: C)) (hU : ∀ p ∈ U, Bef (A ++ i :: C) p.1 p.2) (hfull : ∀ j, j < ops.size → j ∈ A ++ i :: C) : ∀ (l S : List Nat), downOk ops U S l = true → (∀ x ∈ S, x = i ∨ x ∈ C) → (∀ x ∈ l, x < ops.size) → ∀ x ∈ l, x ∈ C
  | [], _, _, _, _, x, hx => by cases hx
  | y :: l, S, hd, hS, hlt, x, hx => by
    simp only [downOk, Bool.and_eq_true, Bool.or_eq_true, List.any_eq_true, List.contains_iff_mem, beq_iff_eq] at hd
    obtain ⟨hd0, hd⟩ := hd
    have hy : y ∈ C := by
      rcases hd0 with ⟨p, hp, hpS⟩ | ⟨p, hp, hpy, hpS⟩
      · have hmem := hfull y (hlt y (by simp))
        have hpn : p ∉ A := by
          intro hpA
          rcases hS p hpS with rfl | hpC
          · exact (List.nodup_append.1 L.nodup).2.2 p hpA p (by simp) rfl
          · exact (List.nodup_append.1 L.nodup).2.2 p hpA p (by simp [hpC]) rfl
        rcases List.mem_append.1 hmem with hA | hiC
        · obtain ⟨X, Y, rfl⟩ := List.append_of_mem hA
          have := L.pre X y (Y ++ i :: C) (by simp) p hp
          exact absurd (by simp [this]) hpn
        · rcases List.mem_cons.1 hiC with rfl | hC
          · exact absurd (L.pre A y C rfl p hp) hpn
          · exact hC
      · subst hpy
        exact (hU p hp).after L.nodup (hS p.1 hpS)
    rcases List.mem_cons.1 hx with rfl | hx
    · exact hy
    · exact down_after L hU hfull l (y :: S) hd (fun z hz => by
        rcases List.mem_cons.1 hz with rfl | hz
        · exact .inr hy
        · exact hS z hz) (fun z hz => hlt z (by simp [hz])) x hx

theorem regDr_lt {n trk : Nat} {ops : Array Oper} : ∀ {l : List DI} {done : List Nat}, regDr P n trk ops U done l = some l → ∀ x ∈ l.map DI.ix, x < ops.size
  | [], _, _, x, hx => by cases hx
  | .q i d q :: l, done, hr, x, hx => by
    simp only [regDr] at hr
    split at hr
    · split at hr
      · rename_i o ho
        split at hr
        · rename_i d' q' l' _ _ hl
          simp only [Option.some.injEq, List.cons.injEq] at hr
          have hl' : regDr P n trk ops U (i :: done) l = some l := by rw [hl, hr.2]
          rcases List.mem_cons.1 hx with rfl | hx
          · exact (Array.getElem?_eq_some_iff.1 ho).1
          · exact regDr_lt hl' x hx
        · cases hr
      · cases hr
    · cases hr
  | .s i f re :: l, done, hr, x, hx => by
    obtain ⟨o, S⟩ := regDr_s hr
    rcases List.mem_cons.1 hx with rfl | hx
    · exact (Array.getElem?_eq_some_iff.1 S.op).1
    · exact regDr_lt S.rest x hx

/-- the model's next is one that writes: what stands ahead of it D has done -/
theorem DInv.split {n trk : Nat} {ops : Array Oper} {done : List Nat} {i : Nat} {f : Fin} {re : List (Nat × DQ)} {l : List DI} {rest : List Nat} {tm : T AV} {tmps : Array Value} {ok : Nat → DQ → AV → Prop}
    (D : DInv P ρ n trk ops U done (.s i f re :: l) rest tm tmps ok) : ∃ A C, rest = A ++ i :: C ∧ ∀ j ∈ A, j ∈ done := by
  obtain ⟨o, S⟩ := regDr_s D.reg
  have hisz : i < ops.size := (Array.getElem?_eq_some_iff.1 S.op).1
  have hirest : i ∈ rest := Classical.byContradiction fun hn => S.new (D.sub i hisz hn)
  obtain ⟨A, C, rfl⟩ := List.append_of_mem hirest
  refine ⟨A, C, rfl, fun j hj => ?_⟩
  obtain ⟨pre, L, hL⟩ := D.ord
  have L' : Lin ops ((pre ++ A) ++ i :: C) := by simpa using L
  have hfull : ∀ j, j < ops.size → j ∈ (pre ++ A) ++ i :: C := L'.full (by simpa using hL.1)
  have hU : ∀ p ∈ U, Bef ((pre ++ A) ++ i :: C) p.1 p.2 := by simpa using hL.2
  have hjsz : j < ops.size := L.lt j (by simp [hj])
  rcases D.cover j hjsz with h1 | h1
  · exact h1
  · exfalso
    have hnd := List.nodup_append.1 L'.nodup
    have hjA : j ∈ pre ++ A := by simp [hj]
    simp only [List.map_cons, List.mem_cons, DI.ix] at h1
    rcases h1 with h1 | h1
    · subst h1
      exact hnd.2.2 j hjA j (by simp) rfl
    · have := down_after L' hU hfull (l.map DI.ix) [i] S.down (fun x hx => .inl (by simpa using hx)) (regDr_lt S.rest) j h1
      exact hnd.2.2 j hjA j (by simp [this]) rfl

noncomputable def putD (tm : T AV) (d : Option Nat) (v : AV) : T AV := match d with
  | none => tm
  | some t => tm.set t v

/-- behind one that writes -/
theorem DInv.after {n trk : Nat} {ops : Array Oper} {done : List Nat} {i : Nat} {f : Fin} {re : List (Nat × DQ)} {l : List DI} {C : List Nat} {tm : T AV} {a : Act}
    (D : DInv P ρ n trk ops U done (.s i f re :: l) (i :: C) tm a.tmps (fun _ q v => evalQ tm [] h q = some v)) {o : Oper} (S : StrongOk P n trk ops U done i f re l o) {ok' : Nat → DQ → AV → Prop} {v : AV}
    (hok : ∀ j ∈ C, j ∈ done → ∀ o' q d x, ops[j]? = some o' → o'.dst = some d → regQ P trk ops [] o' = some q → evalQ tm [] h q = some x → (∀ h', evalQ (putD tm o.dst v) [] h' q = evalQ tm [] h' q) → distinctOk ops j = true → ok' d q x)
    (hr : ρ.le ρ') {u : Value} (hu : VRel ρ' v u) : DInv P ρ' n trk ops U (i :: done) l C (putD tm o.dst v) (a.put o.dst u).tmps ok' := by
  obtain ⟨pre, L, hL⟩ := D.ord
  have hnd : i ∉ C := (List.nodup_cons.1 (List.nodup_append.1 L.nodup).2.1).1
  have hisz : i < ops.size := (Array.getElem?_eq_some_iff.1 S.op).1
  have hdi := dstOf_eq S.op
  -- those that wait do not look at what it writes
  have nolook : ∀ j ∈ C, ∀ o', ops[j]? = some o' → dataOk ops j = true → (∀ p ∈ preds ops j, p ∈ done) → ∀ d, o.dst = some d → d ∉ looks ops o' := by
    intro j hj o' ho' hdata hp d hd hl
    rw [hd] at hdi
    rcases dataOk_spec ho' hdata hl hisz hdi with h1 | ⟨_, h1⟩
    · exact S.new (hp i h1)
    · exact (L.before h1).2 (by simp [hj])
  have hsame : ∀ j ∈ C, ∀ o', ops[j]? = some o' → dataOk ops j = true → (∀ p ∈ preds ops j, p ∈ done) → ∀ q, regQ P trk ops [] o' = some q → ∀ h', evalQ (putD tm o.dst v) [] h' q = evalQ tm [] h' q := by
    intro j hj o' ho' hdata hp q hq h'
    refine evalQ_congr hq (fun t ht => ?_) h'
    unfold putD
    cases hd : o.dst with
    | none => rfl
    | some d =>
      simp only
      rw [T.get_set, if_neg]
      intro e; subst e
      exact nolook j hj o' ho' hdata hp d hd ht
  refine ⟨S.rest, D.hac, fun j hj => ?_, ⟨pre ++ [i], by simpa using L, by simpa using hL⟩, fun j h1 h2 => ?_, fun j hj hd => ?_, fun t x h1 h2 h3 => ?_, ?_⟩
  · rcases D.cover j hj with h1 | h1
    · exact .inl (by simp [h1])
    · simp only [List.map_cons, List.mem_cons, DI.ix] at h1
      rcases h1 with h1 | h1
      · exact .inl (by simp [h1])
      · exact .inr h1
  · by_cases e : j = i
    · simp [e]
    · simp [D.sub j h1 (by simp [e, h2])]
  · have hne : j ≠ i := fun e => by subst e; exact hnd hj
    have hd' : j ∈ done := by simpa [hne] using hd
    obtain ⟨o', q, d, x, p1, p2, p3, p4, p5, p6, p7, p8, p9, p10, p11⟩ := D.pend j (by simp [hj]) hd'
    refine ⟨o', q, d, x, p1, p2, p3, p4, p5, ?_, hok j hj hd' o' q d x p1 p2 p5 p7 (hsame j hj o' p1 p8 p11 q p5) p10, p8, p9, p10, fun p hp => by simp [p11 p hp]⟩
    unfold putD
    cases hd0 : o.dst with
    | none => exact p6
    | some d0 =>
      simp only
      rw [T.get_set, if_neg]
      · exact p6
      · intro e; subst e
        rw [hd0] at hdi
        have := distinct_spec S.dist (Array.getElem?_eq_some_iff.1 p1).1 hne hdi
        rw [dstOf_eq p1] at this
        exact this p2
  · unfold putD at h2
    cases hd0 : o.dst with
    | none =>
      rw [hd0] at h2
      refine (D.tm t x h1 h2 fun j hj hd => ?_).mono hr
      rcases List.mem_cons.1 hj with rfl | hj
      · exact absurd hd S.new
      · exact h3 j hj (by simp [hd])
    | some d0 =>
      rw [hd0] at h2
      have hlt : d0 < n := by
        have := S.dst
        rw [hd0] at this
        simp only [keepDst] at this
        split at this
        · assumption
        · cases this
      have hsz : d0 < a.tmps.size := Nat.lt_of_lt_of_le hlt D.size
      simp only at h2
      rw [T.get_set] at h2
      split at h2
      · rename_i e
        subst e
        cases h2
        simp only [Act.put, getD_set u hsz]
        exact hu
      · rename_i e
        simp only [Act.put, getD_set_other u e]
        refine (D.tm t x h1 h2 fun j hj hd => ?_).mono hr
        rcases List.mem_cons.1 hj with rfl | hj
        · exact absurd hd S.new
        · exact h3 j hj (by simp [hd])
  · cases o.dst with
    | none => exact D.size
    | some d => simpa [Act.put] using D.size

/-- what need not be asked again, and what is -/
theorem ancs_mem {ops : Array Oper} : ∀ (l A : List Nat), ∀ x ∈ ancs ops A l, x ∈ A ∨ ∃ y ∈ ancs ops A l, x ∈ preds ops y
  | [], A, x, hx => .inl hx
  | z :: l, A, x, hx => by
    simp only [ancs] at hx ⊢
    split at hx
    · rename_i hz
      rw [if_pos hz]
      simp only [List.any_eq_true, List.contains_iff_mem] at hz
      obtain ⟨y, hy, hzy⟩ := hz
      have hsub : ∀ (l A : List Nat), ∀ x ∈ A, x ∈ ancs ops A l := by
        intro l
        induction l with
        | nil => intro A x hx; exact hx
        | cons z l ih =>
          intro A x hx
          simp only [ancs]
          split
          · exact ih _ _ (by simp [hx])
          · exact ih _ _ hx
      rcases ancs_mem l (z :: A) x hx with h1 | h1
      · rcases List.mem_cons.1 h1 with rfl | h1
        · exact .inr ⟨y, hsub l _ y (by simp [hy]), hzy⟩
        · exact .inl h1
      · exact .inr h1
    · rename_i hz
      rw [if_neg hz]
      exact ancs_mem l A x hx
end Go.Md
end
