import Derived.AtR
import Derived.Test.YtnkneinchiknmaaGreatDoorM9
set_option linter.unusedVariables false
set_option linter.unusedSimpArgs false
set_option linter.unusedSectionVars false
section
/- FRAMES AND SEGMENTS: operands on both sides, an operation's step. No condition. -/
namespace Go.Md
variable {P : Program} {ft : FT} {B : Nat} {w0 w w' : World} {ρ ρ' : Rho} {h h' : T AO} {nx nx' : Nat}

theorem nth_zero (v : AV) (l : List AV) : nth (v :: l) 0 = v := rfl
theorem nth_succ (v : AV) (l : List AV) (j : Nat) : nth (v :: l) (j + 1) = nth l j := rfl

theorem idxOf_succ (t : Nat) : ∀ (Δ : List (Option Nat)) (n : Nat), idxOf t Δ (n + 1) = (idxOf t Δ n).map (· + 1)
  | [], n => rfl
  | d :: r, n => by
    cases d with
    | none => simp only [idxOf]; exact idxOf_succ t r (n + 1)
    | some u =>
      simp only [idxOf]
      split
      · rfl
      · exact idxOf_succ t r (n + 1)

/-- the values of a segment, the temporaries: on both sides -/
structure EnvR (ρ : Rho) (n trk : Nat) (tm : T AV) (Δ : List (Option Nat)) (env : List AV) (tmps : Array Value) : Prop where
  size : n ≤ tmps.size
  lt : ∀ t, some t ∈ Δ → t < n
  new : ∀ t j, idxOf t Δ 0 = some j → VRel ρ (nth env j) (tmps.getD t undef)
  old : ∀ t v, trk.testBit t = true → idxOf t Δ 0 = none → tm.get t = some v → VRel ρ v (tmps.getD t undef)

theorem getD_set {tmps : Array Value} {t : Nat} (u : Value) (ht : t < tmps.size) : (tmps.setIfInBounds t u).getD t undef = u := by
  simp [Array.getD_eq_getD_getElem?, Array.getElem?_setIfInBounds_self_of_lt ht]
theorem getD_set_other {tmps : Array Value} {t s : Nat} (u : Value) (h : t ≠ s) : (tmps.setIfInBounds t u).getD s undef = tmps.getD s undef := by
  simp [Array.getD_eq_getD_getElem?, Array.getElem?_setIfInBounds_ne h]

theorem EnvR.push {n trk : Nat} {tm : T AV} {Δ : List (Option Nat)} {env : List AV} {a : Act} (E : EnvR ρ n trk tm Δ env a.tmps) {d : Option Nat} (hd : ∀ t, d = some t → t < n) {v : AV} {u : Value} (hu : VRel ρ v u) : EnvR ρ n trk tm (d :: Δ) (v :: env) (a.put d u).tmps := by
  cases d with
  | none =>
    refine ⟨E.size, fun t ht => ?_, fun t j hj => ?_, fun t v ht hn hv => ?_⟩
    · rcases List.mem_cons.1 ht with h | h
      · cases h
      · exact E.lt t h
    · simp only [idxOf, idxOf_succ] at hj
      obtain ⟨i, hi, rfl⟩ := Option.map_eq_some_iff.1 hj
      exact E.new t i hi
    · simp only [idxOf, idxOf_succ, Option.map_eq_none_iff] at hn
      exact E.old t v ht hn hv
  | some s =>
    have hs := hd s rfl
    have hsz : s < a.tmps.size := Nat.lt_of_lt_of_le hs E.size
    refine ⟨by simpa [Act.put] using E.size, fun t ht => ?_, fun t j hj => ?_, fun t v ht hn hv => ?_⟩
    · rcases List.mem_cons.1 ht with h | h
      · cases h; exact hs
      · exact E.lt t h
    · simp only [idxOf, idxOf_succ] at hj
      split at hj
      · rename_i e
        subst e
        cases hj
        simp only [Act.put, getD_set u hsz]
        exact hu
      · rename_i e
        obtain ⟨i, hi, rfl⟩ := Option.map_eq_some_iff.1 hj
        simp only [Act.put, getD_set_other u e]
        exact E.new t i hi
    · simp only [idxOf, idxOf_succ] at hn
      split at hn
      · cases hn
      · rename_i e
        simp only [Option.map_eq_none_iff] at hn
        simp only [Act.put, getD_set_other u e]
        exact E.old t v ht hn hv

/-- an operand of D stands for one of the model -/
def XOk (P : Program) (ρ : Rho) (trk : Nat) (tm : T AV) (Δ : List (Option Nat)) (env : List AV) (a : Act) (x : Operand) : Prop :=
  ∀ dx v, mapX P trk Δ x = some dx → evalX tm env dx = some v → VRel ρ v (a.eval x)

theorem xok_plain (R : Rel P ft B w0 ρ h nx w) {trk : Nat} {tm : T AV} {Δ : List (Option Nat)} {env : List AV} {a : Act} {x : Operand} (hx : ∀ t, x ≠ .tmp t) : XOk P ρ trk tm Δ env a x := by
  intro dx v hm hv
  cases x with
  | tmp t => exact absurd rfl (hx t)
  | const c =>
    simp only [mapX, Option.map_eq_some_iff] at hm
    obtain ⟨av, h1, rfl⟩ := hm
    cases hv
    exact aconst_rel h1
  | global g =>
    simp only [mapX] at hm
    split at hm
    · rename_i hg
      cases hm
      cases hv
      have hlt : g < P.globals.size := by
        obtain ⟨x, hx⟩ := Option.isSome_iff_exists.1 hg
        exact (Array.getElem?_eq_some_iff.1 hx).1
      obtain ⟨gh, h1, h2, h3⟩ := R.glob g hlt
      exact ⟨gh, h1, by rw [h2, h3]; rfl⟩
    · cases hm
  | func f =>
    cases hm
    cases hv
    exact ⟨[], [], rfl, rfl, rfl⟩
theorem EnvR.xok {n trk : Nat} {tm : T AV} {Δ : List (Option Nat)} {env : List AV} {a : Act} (E : EnvR ρ n trk tm Δ env a.tmps) (R : Rel P ft B w0 ρ h nx w) (x : Operand) : XOk P ρ trk tm Δ env a x := by
  by_cases hx : ∃ t, x = .tmp t
  · obtain ⟨t, rfl⟩ := hx
    intro dx v hm hv
    simp only [mapX] at hm
    split at hm
    · rename_i j hj
      cases hm
      cases hv
      exact E.new t j hj
    · rename_i hj
      split at hm
      · rename_i ht
        cases hm
        exact E.old t v ht hj hv
      · cases hm
  · exact xok_plain R fun t e => hx ⟨t, e⟩

theorem mapXs_ok {trk : Nat} {tm : T AV} {Δ : List (Option Nat)} {env : List AV} {a : Act} : ∀ {xs : List Operand} {ds : List DX} {vs : List AV}, (∀ x ∈ xs, XOk P ρ trk tm Δ env a x) → mapXs P trk Δ xs = some ds → evalXs tm env ds = some vs → VRelL ρ vs (xs.map a.eval)
  | [], ds, vs, _, hm, hv => by cases hm; cases hv; rfl
  | x :: xs, ds, vs, hx, hm, hv => by
    simp only [mapXs] at hm
    split at hm
    · rename_i d r h1 h2
      cases hm
      simp only [evalXs] at hv
      split at hv
      · rename_i v hv1
        split at hv
        · rename_i l hl
          cases hv
          exact ⟨_, _, rfl, hx x (by simp) d v h1 hv1, mapXs_ok (fun y hy => hx y (by simp [hy])) h2 hl⟩
        · cases hv
      · cases hv
    · cases hm

/-- a guard -/
theorem guard_ok {trk : Nat} {tm : T AV} {Δ : List (Option Nat)} {env : List AV} {a : Act} {ops : Array Oper} {o : Oper} {g : Option (DX × Bool)} (hg : regG P trk ops Δ o.guard = some g)
    (hx : ∀ j w t, o.guard = some (j, w) → (ops[j]?).bind (·.dst) = some t → XOk P ρ trk tm Δ env a (.tmp t)) {b : Bool} (hb : guardOk tm env g = some b) : Region.wanted o (yielded ops a.tmps) = b := by
  cases ho : o.guard with
  | none =>
    rw [ho] at hg
    cases hg
    cases hb
    simp [Region.wanted, ho]
  | some jw =>
    obtain ⟨j, want⟩ := jw
    rw [ho] at hg
    simp only [regG] at hg
    split at hg
    · rename_i t ht
      obtain ⟨dx, h1, h2⟩ := Option.map_eq_some_iff.1 hg
      subst h2
      simp only [Region.wanted, ho, yielded, ht, Option.bind_some]
      simp only [guardOk] at hb
      have hX := hx j want t ho ht dx
      split at hb
      · rename_i c hc
        cases hb
        have := hX _ h1 hc
        have hv : a.tmps.getD t undef = .bool c := this
        cases ha : a.tmps[t]? with
        | none => simp [Array.getD_eq_getD_getElem?, ha, undef] at hv
        | some u =>
          simp [Array.getD_eq_getD_getElem?, ha] at hv
          subst hv
          cases c <;> cases want <;> rfl
      · rename_i v hv hc
        cases hb
        have hr := hX _ h1 hc
        have hnb : ∀ c, a.tmps.getD t undef ≠ .bool c := by
          intro c e
          change VRel ρ v (a.tmps.getD t undef) at hr
          rw [e] at hr
          cases v with
          | bool b => exact hv b rfl
          | undef => cases hr
          | int _ _ => cases hr
          | str _ _ => obtain ⟨_, h⟩ := hr; cases h
          | pnil => cases hr
          | ptr _ _ => obtain ⟨_, _, h⟩ := hr; cases h
          | snil => cases hr
          | sle => obtain ⟨_, _, h⟩ := hr; cases h
          | sl _ _ _ _ => obtain ⟨_, _, _, h, _⟩ := hr; cases h
          | mnil => cases hr
          | mp _ => obtain ⟨_, _, h⟩ := hr; cases h
          | fv _ _ _ => obtain ⟨_, _, h, _⟩ := hr; cases h
          | fy _ => obtain ⟨_, _, h⟩ := hr; cases h
          | fnil => cases hr
          | inil => cases hr
          | ifc _ _ => obtain ⟨_, h, _⟩ := hr; cases h
          | agg _ => obtain ⟨_, h, _⟩ := hr; cases h
          | tup _ => obtain ⟨_, h, _⟩ := hr; cases h
        cases ha : a.tmps[t]? with
        | none => rfl
        | some u =>
          have hu : a.tmps.getD t undef = u := by simp [Array.getD_eq_getD_getElem?, ha]
          have := hnb
          rw [hu] at this
          cases u with
          | bool c => exact absurd rfl (this c)
          | _ => rfl
      · cases hb
    · cases hg

/-! an operation's step -/
section steps
variable {b : Frame} {a : Act} {k : List Item} {cs : List Frame} {ops : Array Oper} {i : Nat} {rest : List Nat} {o : Oper}
theorem step_value {v : Value} (ho : ops[i]? = some o) (hw : Region.wanted o (yielded ops a.tmps) = true) (hnd : ∀ c, o.op ≠ .defer c) (hr : (execOp a.eval o).run P w = .ok (.value v) w') :
    Go.step P (lone (b.atR a (.inRegion ops (i :: rest) :: k)) cs w) = .next (lone (b.atR (a.put o.dst v) (.inRegion ops rest :: k)) cs w') := by
  have hfin : (b.atR a (.inRegion ops (i :: rest) :: k)).finish v = b.atR (a.put o.dst v) (.inRegion ops rest :: k) := by rw [Frame.finish_atR, ho]; rfl
  refine step_lone_go ?_
  rw [stepGR_op ho hw, Oper.semAt_eq _ _ _ hnd, ← hfin]; simp [stepG.apply, hr]
theorem step_skipped (ho : ops[i]? = some o) (hw : Region.wanted o (yielded ops a.tmps) = true) (hnd : ∀ c, o.op ≠ .defer c) (hr : (execOp a.eval o).run P w = .ok .skip w') :
    Go.step P (lone (b.atR a (.inRegion ops (i :: rest) :: k)) cs w) = .next (lone (b.atR (a.put o.dst undef) (.inRegion ops rest :: k)) cs w') := by
  have hfin : (b.atR a (.inRegion ops (i :: rest) :: k)).finish undef = b.atR (a.put o.dst undef) (.inRegion ops rest :: k) := by rw [Frame.finish_atR, ho]; rfl
  refine step_lone_go ?_
  rw [stepGR_op ho hw, Oper.semAt_eq _ _ _ hnd, ← hfin]; simp [stepG.apply, hr]
theorem step_unwanted (ho : ops[i]? = some o) (hw : Region.wanted o (yielded ops a.tmps) = false) :
    Go.step P (lone (b.atR a (.inRegion ops (i :: rest) :: k)) cs w) = .next (lone (b.atR (a.put o.dst undef) (.inRegion ops rest :: k)) cs w) := by
  have := stepR_op_skip (P := P) (b := b) (a := a) (k := k) (cs := cs) (w := w) (ops := ops) (i := i) (rest := rest) (by simp [ho, hw])
  rw [this, ho]; rfl
theorem step_enters {f : FuncId} {args : Array Value} (ho : ops[i]? = some o) (hw : Region.wanted o (yielded ops a.tmps) = true) (hnd : ∀ c, o.op ≠ .defer c) (hr : (execOp a.eval o).run P w = .ok (.enter f args) w') :
    Go.step P (lone (b.atR a (.inRegion ops (i :: rest) :: k)) cs w) = .next (lone (Frame.enter P f args .normal) (b.atR a (.inRegion ops (i :: rest) :: k) :: cs) w') := by
  refine step_lone_go ?_
  rw [stepGR_op ho hw, Oper.semAt_eq _ _ _ hnd]; simp [stepG.apply, hr, Frame.atR]
theorem step_rounds {l : Nat} {f : FuncId} {tmps : Array Value} {assign body : Code} (ho : ops[i]? = some o) (hw : Region.wanted o (yielded ops a.tmps) = true) (hnd : ∀ c, o.op ≠ .defer c) (hr : (execOp a.eval o).run P w = .ok (.round l f tmps assign body) w') :
    Go.step P (lone (b.atR a (.inRegion ops (i :: rest) :: k)) cs w) = .next (lone (Frame.round l f tmps assign body .normal) (b.atR a (.inRegion ops (i :: rest) :: k) :: cs) w') := by
  refine step_lone_go ?_
  rw [stepGR_op ho hw, Oper.semAt_eq _ _ _ hnd]; simp [stepG.apply, hr, Frame.atR]
end steps

theorem evalFn (a : Act) : (∀ c, a.eval (.const c) = c) ∧ ∀ f, a.eval (.func f) = .func (.func f) #[] #[] := ⟨fun _ => rfl, fun _ => rfl⟩

theorem compQ_nd {o : Oper} {k : QK} {xs : List Operand} (hc : compQ P o.op = some (k, xs)) : ∀ c, o.op ≠ .defer c := by
  intro c e; rw [e] at hc; cases hc
theorem compS_nd {o : Oper} {k : SK} {xs : List Operand} (hc : compS P o.op = some (k, xs)) : ∀ c, o.op ≠ .defer c := by
  intro c e; rw [e] at hc; cases hc

/-- a quiet operation, in whatever order -/
theorem q_step (R : Rel P ft B w0 ρ h nx w) {trk : Nat} {tm : T AV} {Δ : List (Option Nat)} {env : List AV} {a : Act} {ops : Array Oper} {i : Nat} {o : Oper} (ho : ops[i]? = some o) {q : DQ} (hq : regQ P trk ops Δ o = some q)
    (hx : ∀ k xs, compQ P o.op = some (k, xs) → ∀ x ∈ xs, XOk P ρ trk tm Δ env a x) (hg : ∀ j w t, o.guard = some (j, w) → (ops[j]?).bind (·.dst) = some t → XOk P ρ trk tm Δ env a (.tmp t)) {v : AV} (hv : evalQ tm env h q = some v)
    (b : Frame) (rest : List Nat) (k : List Item) (cs : List Frame) :
    ∃ u, VRel ρ v u ∧ Go.step P (lone (b.atR a (.inRegion ops (i :: rest) :: k)) cs w) = .next (lone (b.atR (a.put o.dst u) (.inRegion ops rest :: k)) cs w) := by
  unfold regQ at hq
  split at hq
  · rename_i qk xs hc
    split at hq
    · rename_i ds g hds hg0
      cases hq
      unfold evalQ at hv
      simp only at hv
      split at hv
      · rename_i bb hb
        have hwant := guard_ok hg0 hg hb
        split at hv
        · split at hv
          · rename_i vs hvs
            have hrel := mapXs_ok (hx _ _ hc) hds hvs
            obtain ⟨u, h1, h2⟩ := qop_ok R (evalFn a).1 (evalFn a).2 hc hrel hv
            exact ⟨u, h2, step_value ho hwant (compQ_nd hc) h1⟩
          · cases hv
        · cases hv
          exact ⟨undef, rfl, step_unwanted ho hwant⟩
      · cases hv
    · cases hq
  · cases hq
end Go.Md
end
section
/- FRAMES ON BOTH SIDES. No condition. -/
namespace Go.Md
variable {P : Program} {ft : FT} {B : Nat} {w0 w w' : World} {ρ ρ' : Rho} {h h' : T AO} {nx nx' : Nat}

def CodeOk (P : Program) (ft : FT) : Prop := ∀ f df, ft.get f = some df → ∃ fn, P.funcs[f]? = some fn ∧ regFn P fn df = some df

def RndRel (ρ : Rho) : Option Nat → Option Nat → Prop
  | none, none => True
  | some l, some b => ∃ g, ρ l = some g ∧ g.b = b
  | _, _ => False
def DfRel (ρ : Rho) : List Nat → List Deferred → Prop
  | [], [] => True
  | d :: ds, x :: xs => (∃ g, ρ d = some g ∧ x = { target := .collected g.b, args := #[] }) ∧ DfRel ρ ds xs
  | _, _ => False
def TmAll (ρ : Rho) (trk : Nat) (tm : T AV) (tmps : Array Value) : Prop := ∀ t v, trk.testBit t = true → tm.get t = some v → VRel ρ v (tmps.getD t undef)
theorem TmAll.mono {trk : Nat} {tm : T AV} {tmps : Array Value} (hr : ρ.le ρ') (H : TmAll ρ trk tm tmps) : TmAll ρ' trk tm tmps := fun t v ht hv => (H t v ht hv).mono hr
theorem RndRel.mono (hr : ρ.le ρ') : ∀ {x y : Option Nat}, RndRel ρ x y → RndRel ρ' x y
  | none, none, _ => trivial
  | some _, some _, ⟨g, h1, h2⟩ => ⟨g, hr _ _ h1, h2⟩
theorem DfRel.mono (hr : ρ.le ρ') : ∀ {x : List Nat} {y : List Deferred}, DfRel ρ x y → DfRel ρ' x y
  | [], [], _ => trivial
  | _ :: _, _ :: _, ⟨⟨g, h1, h2⟩, h3⟩ => ⟨⟨g, hr _ _ h1, h2⟩, DfRel.mono hr h3⟩

/-- from the j-th on -/
def upFrom (ops : Array Oper) (j : Nat) : List Nat := List.range' j (ops.size - j)
theorem upFrom_zero (ops : Array Oper) : upFrom ops 0 = List.range ops.size := by simp [upFrom, List.range_eq_range']
theorem upFrom_lt {ops : Array Oper} {j : Nat} (h : j < ops.size) : upFrom ops j = j :: upFrom ops (j + 1) := by
  unfold upFrom
  rw [show ops.size - j = (ops.size - (j + 1)) + 1 from by omega, List.range'_succ]
theorem upFrom_ge {ops : Array Oper} {j : Nat} (h : ops.size ≤ j) : upFrom ops j = [] := by
  unfold upFrom
  rw [show ops.size - j = 0 from by omega]; rfl

inductive IRel (P : Program) (ρ : Rho) (n trk : Nat) : AI → Item → Prop
  | c {dc c} : regCode P n trk c dc = some dc → IRel P ρ n trk (.c dc) (.code c)
  | blk {id} : IRel P ρ n trk (.blk id) (.inBlock id)
  | lp {dc c} : regCode P n trk c dc = some dc → IRel P ρ n trk (.lp dc) (.inLoop c)
  | scp {dc c} : regCode P n trk c dc = some dc → IRel P ρ n trk (.scp dc) (.inScope c)
  | ops {l ops j} : regSegs P n trk ops l (ops.toList.drop j) = some l → IRel P ρ n trk (.ops l) (.inRegion ops (upFrom ops j))
  | endrf {l g} : ρ l = some g → IRel P ρ n trk (.endrf l) (.endRangeFunc g.b)
  | br : IRel P ρ n trk .br .beginRound
theorem IRel.mono {n trk : Nat} (hr : ρ.le ρ') {i : AI} {x : Item} (H : IRel P ρ n trk i x) : IRel P ρ' n trk i x := by
  cases H with
  | c h => exact .c h
  | blk => exact .blk
  | lp h => exact .lp h
  | scp h => exact .scp h
  | ops h => exact .ops h
  | endrf h => exact .endrf (hr _ _ h)
  | br => exact .br

inductive TRel (P : Program) (ρ : Rho) (n trk : Nat) : List AI → List Item → Prop
  | nil : TRel P ρ n trk [] []
  | cons {i x k k'} : IRel P ρ n trk i x → TRel P ρ n trk k k' → TRel P ρ n trk (i :: k) (x :: k')
  | pad {k k' ops} : TRel P ρ n trk k k' → TRel P ρ n trk k (.inRegion ops [] :: k')
theorem TRel.mono {n trk : Nat} (hr : ρ.le ρ') {k : List AI} {k' : List Item} (H : TRel P ρ n trk k k') : TRel P ρ' n trk k k' := by
  induction H with
  | nil => exact .nil
  | cons h _ ih => exact .cons (h.mono hr) ih
  | pad _ ih => exact .pad ih

structure FB (ρ : Rho) (a : AF) (b : Frame) (act : Act) : Prop where
  fn : b.fn = a.fn
  kind : b.kind = .normal
  rnd : RndRel ρ a.rnd b.roundOf
  dfs : DfRel ρ a.dfs act.defers
theorem FB.mono {a : AF} {b : Frame} {act : Act} (hr : ρ.le ρ') (H : FB ρ a b act) : FB ρ' a b act := ⟨H.fn, H.kind, H.rnd.mono hr, H.dfs.mono hr⟩

/-- running, not in a region that draws -/
structure FP (P : Program) (ft : FT) (ρ : Rho) (a : AF) (b : Frame) (act : Act) (todo : List Item) (df : DF) : Prop where
  fb : FB ρ a b act
  hdf : ft.get a.fn = some df
  size : df.n ≤ act.tmps.size
  tm : TmAll ρ df.trk a.tm act.tmps
  todo : TRel P ρ df.n df.trk a.todo todo
theorem FP.mono {a : AF} {b : Frame} {act : Act} {todo : List Item} {df : DF} (hr : ρ.le ρ') (H : FP P ft ρ a b act todo df) : FP P ft ρ' a b act todo df := ⟨H.fb.mono hr, H.hdf, H.size, H.tm.mono hr, H.todo.mono hr⟩

/-- leading pads are stepped over -/
theorem pads {n trk : Nat} {k : List AI} {k' : List Item} (H : TRel P ρ n trk k k') : ∃ k2, TRel P ρ n trk k k2 ∧ (k = [] → k2 = []) ∧ (∀ i k1, k = i :: k1 → ∃ x k3, k2 = x :: k3 ∧ IRel P ρ n trk i x ∧ TRel P ρ n trk k1 k3) ∧
    ∀ (b : Frame) (a : Act) (cs : List Frame) (w : World), Steps P (lone (b.atR a k') cs w) (lone (b.atR a k2) cs w) := by
  induction H with
  | nil => exact ⟨[], .nil, fun _ => rfl, fun i k1 h => (by cases h), fun _ _ _ _ => Steps.refl _ _⟩
  | cons h1 h2 _ => exact ⟨_, .cons h1 h2, fun h => (by cases h), fun i k1 h => (by cases h; exact ⟨_, _, rfl, h1, h2⟩), fun _ _ _ _ => Steps.refl _ _⟩
  | pad _ ih =>
    obtain ⟨k2, h1, h2, h3, h4⟩ := ih
    exact ⟨k2, h1, h2, h3, fun b a cs w => .head stepR_region_end (h4 b a cs w)⟩

/-! jumps -/
theorem exitTo_rel {n trk id : Nat} {k : List AI} {k' : List Item} (H : TRel P ρ n trk k k') : (∀ r, exitTo id k = some r → ∃ r', Go.exitTo id k' = some r' ∧ TRel P ρ n trk r r') ∧ (exitTo id k = none → Go.exitTo id k' = none) := by
  induction H with
  | nil => exact ⟨fun r h => (by cases h), fun _ => rfl⟩
  | pad _ ih => exact ih
  | cons h1 h2 ih =>
    cases h1 with
    | blk =>
      rename_i id'
      simp only [exitTo, Go.exitTo]
      by_cases e : id' = id
      · subst e
        simp only [Nat.beq_refl, beq_self_eq_true, if_true]
        exact ⟨fun r h => (by cases h; exact ⟨_, rfl, h2⟩), fun h => (by cases h)⟩
      · have e1 : Nat.beq id' id = false := by
          cases hb : Nat.beq id' id with
          | false => rfl
          | true => exact absurd (eq_of_beq' hb) e
        have e2 : (id' == id) = false := by simpa using e
        simp only [e1, e2]
        exact ih
    | _ => exact ih
theorem noLabel_find (l : Nat) : ∀ {c : Code}, noLabel c = true → Go.findLabel c l = none := by
  intro c h
  induction c with
  | seq a b iha ihb =>
    simp only [noLabel, Bool.and_eq_true] at h
    simp [Go.findLabel, iha h.1, ihb h.2]
  | label l' => simp [noLabel] at h
  | _ => rfl
theorem findLabel_rel {n trk l : Nat} : ∀ {dc : DC} {c : Code}, regCode P n trk c dc = some dc → (∀ r, findLabel l dc = some r → ∃ r', Go.findLabel c l = some r' ∧ regCode P n trk r' r = some r) ∧ (findLabel l dc = none → Go.findLabel c l = none) := by
  intro dc
  induction dc with
  | seq a b iha ihb =>
    intro c h
    cases c <;> simp only [regCode] at h <;> try (cases h; done)
    rename_i a' b'
    split at h
    · rename_i x y hx hy
      simp only [Option.some.injEq, DC.seq.injEq] at h
      obtain ⟨rfl, rfl⟩ := h
      obtain ⟨a1, a2⟩ := iha hx
      obtain ⟨b1, b2⟩ := ihb hy
      simp only [findLabel, Go.findLabel]
      cases hf : findLabel l x with
      | some r1 =>
        obtain ⟨r', h2, h3⟩ := a1 r1 hf
        rw [h2]
        refine ⟨fun r hr => ?_, fun hr => by cases hr⟩
        cases hr
        exact ⟨.seq r' b', rfl, by simp [regCode, h3, hy]⟩
      | none =>
        rw [a2 hf]
        exact ⟨b1, b2⟩
    · cases h
  | label l' =>
    intro c h
    cases c <;> simp only [regCode] at h <;> try (cases h; done)
    rename_i l2
    simp only [Option.some.injEq, DC.label.injEq] at h
    subst h
    simp only [findLabel, Go.findLabel]
    by_cases e : l2 = l
    · subst e
      simp only [Nat.beq_refl, beq_self_eq_true, if_true]
      exact ⟨fun r hr => (by cases hr; exact ⟨.skip, rfl, rfl⟩), fun hr => by cases hr⟩
    · have e1 : Nat.beq l2 l = false := by
        cases hb : Nat.beq l2 l with
        | false => rfl
        | true => exact absurd (eq_of_beq' hb) e
      have e2 : (l2 == l) = false := by simpa using e
      simp only [e1, e2]
      exact ⟨fun r hr => (by cases hr), fun _ => rfl⟩
  | bad =>
    intro c h
    have hn : noLabel c = true := by
      cases hb : noLabel c with
      | true => rfl
      | false => cases c <;> simp [regCode, hb] at h
    exact ⟨fun r hr => (by cases hr), fun _ => noLabel_find l hn⟩
  | _ =>
    intro c h
    refine ⟨fun r hr => (by cases hr), fun _ => ?_⟩
    cases c <;> first | rfl | (simp [regCode] at h; done)
theorem gotoIn_rel {n trk l : Nat} {k : List AI} {k' : List Item} (H : TRel P ρ n trk k k') : (∀ r, gotoIn l k = some r → ∃ r', Go.gotoIn l k' = some r' ∧ TRel P ρ n trk r r') ∧ (gotoIn l k = none → Go.gotoIn l k' = none) := by
  induction H with
  | nil => exact ⟨fun r h => (by cases h), fun _ => rfl⟩
  | pad _ ih => exact ih
  | cons h1 h2 ih =>
    cases h1 with
    | scp hc =>
      rename_i dc c
      obtain ⟨f1, f2⟩ := findLabel_rel (l := l) hc
      simp only [gotoIn, Go.gotoIn]
      cases hf : findLabel l dc with
      | some r =>
        obtain ⟨r', h3, h4⟩ := f1 r hf
        rw [h3]
        exact ⟨fun r2 hr => (by cases hr; exact ⟨_, rfl, .cons (.c h4) (.cons (.scp hc) h2)⟩), fun hr => by cases hr⟩
      | none =>
        rw [f2 hf]
        exact ih
    | _ => exact ih
end Go.Md
end
section
/- SEGMENTS: the quiet operations of a segment, on both sides. No condition. -/
namespace Go.Md
variable {P : Program} {ft : FT} {B : Nat} {w0 w w' : World} {ρ ρ' : Rho} {h h' : T AO} {nx nx' : Nat}

theorem evalQs_nil (tm : T AV) (h : T AO) (env : List AV) : evalQs tm h [] env = some env := rfl
theorem evalQs_cons (tm : T AV) (h : T AO) (q : DQ) (qs : List DQ) (env : List AV) : evalQs tm h (q :: qs) env = match evalQ tm env h q with
    | some v => evalQs tm h qs (v :: env)
    | none => none := rfl

theorem regQs_mem {trk : Nat} {ops : Array Oper} : ∀ {qs : List DQ} {os : List Oper} {Δ : List (Option Nat)} {qs' : List DQ} {os' : List Oper} {Δ' : List (Option Nat)}, regQs P trk ops qs os Δ = some (qs', os', Δ') → ∀ d ∈ Δ, d ∈ Δ'
  | [], os, Δ, qs', os', Δ', hr, d, hd => by cases hr; exact hd
  | _ :: qs, [], Δ, qs', os', Δ', hr, d, hd => by cases hr
  | _ :: qs, o :: os, Δ, qs', os', Δ', hr, d, hd => by
    simp only [regQs] at hr
    split at hr
    · rename_i q r os2 Δ2 h1 h2
      cases hr
      exact regQs_mem h2 d (by simp [hd])
    · cases hr

theorem drop_cons {ops : Array Oper} {j : Nat} {o : Oper} {os : List Oper} (hd : o :: os = ops.toList.drop j) : ops[j]? = some o ∧ j < ops.size ∧ os = ops.toList.drop (j + 1) := by
  have h1 : (ops.toList.drop j)[0]? = some o := by rw [← hd]; rfl
  rw [List.getElem?_drop] at h1
  simp only [Nat.add_zero, Array.getElem?_toList] at h1
  refine ⟨h1, (Array.getElem?_eq_some_iff.1 h1).1, ?_⟩
  rw [← List.tail_drop, ← hd]
  rfl

theorem segQs_run (R : Rel P ft B w0 ρ h nx w) {n trk : Nat} {ops : Array Oper} {tm : T AV} (b : Frame) (k : List Item) (cs : List Frame) : ∀ (qs : List DQ) (j : Nat) (os : List Oper) (Δ : List (Option Nat)) (env : List AV) (a : Act) (qs' : List DQ) (os' : List Oper) (Δ' : List (Option Nat)),
    os = ops.toList.drop j → regQs P trk ops qs os Δ = some (qs', os', Δ') → EnvR ρ n trk tm Δ env a.tmps → (∀ t, some t ∈ Δ' → t < n) → ∀ env', evalQs tm h qs' env = some env' →
    ∃ a' j', os' = ops.toList.drop j' ∧ EnvR ρ n trk tm Δ' env' a'.tmps ∧ a'.defers = a.defers ∧
      Steps P (lone (b.atR a (.inRegion ops (upFrom ops j) :: k)) cs w) (lone (b.atR a' (.inRegion ops (upFrom ops j') :: k)) cs w)
  | [], j, os, Δ, env, a, qs', os', Δ', hos, hr, E, hlt, env', he => by
    cases hr
    rw [evalQs_nil] at he
    cases he
    exact ⟨a, j, hos, E, rfl, Steps.refl _ _⟩
  | _ :: qs, j, [], Δ, env, a, qs', os', Δ', hos, hr, E, hlt, env', he => by cases hr
  | _ :: qs, j, o :: os, Δ, env, a, qs', os', Δ', hos, hr, E, hlt, env', he => by
    simp only [regQs] at hr
    split at hr
    · rename_i q r os2 Δ2 h1 h2
      cases hr
      obtain ⟨ho, hj, hos'⟩ := drop_cons hos
      rw [evalQs_cons] at he
      split at he
      · rename_i v hv
        obtain ⟨u, hu, hs⟩ := q_step R ho h1 (fun _ _ _ x _ => E.xok R x) (fun _ _ _ _ _ => E.xok R _) hv b (upFrom ops (j + 1)) k cs
        have hd : ∀ t, o.dst = some t → t < n := fun t ht => hlt t (regQs_mem h2 _ (by simp [ht]))
        obtain ⟨a', j', e1, e2, e3, e4⟩ := segQs_run R b k cs qs (j + 1) os _ _ _ _ _ _ hos' h2 (E.push hd hu) hlt env' he
        refine ⟨a', j', e1, e2, e3.trans ?_, .head ?_ e4⟩
        · cases o.dst <;> rfl
        · rw [upFrom_lt hj]; exact hs
      · cases he
    · cases hr

theorem dstsOk_lt {n trk : Nat} : ∀ {Δ : List (Option Nat)}, dstsOk n trk Δ = true → ∀ t, some t ∈ Δ → t < n
  | [], _, t, ht => by cases ht
  | d :: r, h, t, ht => by
    simp only [dstsOk, Bool.and_eq_true] at h
    rcases List.mem_cons.1 ht with rfl | ht
    · have := h.1
      simp only [keepDst] at this
      split at this
      · assumption
      · cases this
    · exact dstsOk_lt h.2 t ht

theorem writeOuts_append (env : List AV) : ∀ (A B : List (Nat × Nat)) (tm : T AV), writeOuts tm env (A ++ B) = writeOuts (writeOuts tm env A) env B
  | [], _, _ => rfl
  | (t, j) :: A, B, tm => writeOuts_append env A B _
theorem outs_get {trk : Nat} {tm : T AV} {env : List AV} {t : Nat} (ht : trk.testBit t = true) : ∀ (Δ : List (Option Nat)) (k : Nat), (writeOuts tm env (outsOf trk Δ k)).get t = match idxOf t Δ k with
    | some j => some (nth env j)
    | none => tm.get t
  | [], k => rfl
  | none :: r, k => by simp only [outsOf, idxOf]; exact outs_get ht r (k + 1)
  | some u :: r, k => by
    simp only [outsOf, idxOf]
    by_cases e : u = t
    · subst e
      rw [if_pos ht, if_pos rfl, writeOuts_append]
      simp only [writeOuts]
      rw [T.get_set, if_pos rfl]
    · rw [if_neg e]
      split
      · rw [writeOuts_append]
        simp only [writeOuts]
        rw [T.get_set, if_neg e]
        exact outs_get ht r (k + 1)
      · exact outs_get ht r (k + 1)
theorem EnvR.outs {n trk : Nat} {tm : T AV} {Δ : List (Option Nat)} {env : List AV} {tmps : Array Value} (E : EnvR ρ n trk tm Δ env tmps) : TmAll ρ trk (writeOuts tm env (outsOf trk Δ 0)) tmps := by
  intro t v ht hv
  rw [outs_get ht] at hv
  split at hv
  · rename_i j hj
    cases hv
    exact E.new t j hj
  · rename_i hj
    exact E.old t v ht hj hv
theorem TmAll.env {n trk : Nat} {tm : T AV} {tmps : Array Value} (H : TmAll ρ trk tm tmps) (hs : n ≤ tmps.size) : EnvR ρ n trk tm [] [] tmps :=
  ⟨hs, fun t ht => (by cases ht), fun t j hj => (by cases hj), fun t v ht _ hv => H t v ht hv⟩

/-- a value kept in its temporary, on both sides -/
theorem TmAll.put {n trk : Nat} {tm : T AV} {a : Act} (H : TmAll ρ trk tm a.tmps) (hs : n ≤ a.tmps.size) {dst d : Option Nat} (hd : keepDst n trk dst = some d) {v : AV} {u : Value} (hu : VRel ρ v u) :
    TmAll ρ trk (match d with | none => tm | some t => tm.set t v) (a.put dst u).tmps := by
  cases dst with
  | none => cases hd; exact H
  | some t =>
    simp only [keepDst] at hd
    split at hd
    · rename_i hlt
      have hsz : t < a.tmps.size := by omega
      split at hd
      · cases hd
        intro s x hs' hx
        rw [T.get_set] at hx
        split at hx
        · rename_i e
          subst e
          cases hx
          simp only [Act.put, getD_set u hsz]
          exact hu
        · rename_i e
          simp only [Act.put, getD_set_other u e]
          exact H s x hs' hx
      · rename_i hnt
        cases hd
        intro s x hs' hx
        have e : t ≠ s := fun e => by subst e; exact hnt hs'
        simp only [Act.put, getD_set_other u e]
        exact H s x hs' hx
    · cases hd
end Go.Md
end
section
/- WHAT AN OPERATION LOOKS AT. No condition. -/
namespace Go.Md
variable {P : Program} {ft : FT} {B : Nat} {w0 w w' : World} {ρ ρ' : Rho} {h h' : T AO} {nx nx' : Nat}

theorem compBuild_ops {P : Program} {fs : List Field} : ∀ {ps : List (Nat × Operand)} {l}, compBuild P fs ps = some l → True := fun _ => trivial

theorem compQ_operands {o : Op} {k : QK} {xs : List Operand} (hc : compQ P o = some (k, xs)) {t : Nat} (ht : Operand.tmp t ∈ xs) : Operand.tmp t ∈ o.operands.toList := by
  cases o <;> simp only [compQ] at hc
  all_goals try (cases hc; done)
  case move => cases hc; simpa [Op.operands] using ht
  case assign => cases hc; simpa [Op.operands] using ht
  case pick => cases hc; simpa [Op.operands] using ht
  case binOp op t' x y yt =>
    have : xs = [x, y] := by
      split at hc
      · split at hc
        · cases hc; rfl
        · cases hc; rfl
        · obtain ⟨_, _, h⟩ := Option.map_eq_some_iff.1 hc; cases h; rfl
      · cases hc; rfl
    subst this; simpa [Op.operands] using ht
  case unOp => cases hc; simpa [Op.operands] using ht
  case convert s d x =>
    have : xs = [x] := by
      unfold compConv at hc
      split at hc
      · cases hc; rfl
      · cases hc; rfl
      · split at hc
        · cases hc; rfl
        · cases hc
      · cases hc
    subst this; simpa [Op.operands] using ht
  case makeInterface t' x =>
    have : xs = [x] := by
      split at hc
      · cases hc
      · cases hc; rfl
      · cases hc
    subst this; simpa [Op.operands] using ht
  case makeFunc fn first cap =>
    cases fn <;> simp only at hc <;> try (cases hc; done)
    cases hc
    simpa [Op.operands] using ht
  case build t' parts =>
    have : xs = parts.toList.map (·.2) := by
      split at hc
      · split at hc
        · obtain ⟨_, _, h⟩ := Option.map_eq_some_iff.1 hc; cases h; rfl
        · cases hc
      · obtain ⟨_, _, h⟩ := Option.map_eq_some_iff.1 hc; cases h; rfl
      · cases hc
    subst this; simpa [Op.operands] using ht
  case load t' a =>
    have : xs = [a] := by
      split at hc
      · obtain ⟨_, _, h⟩ := Option.map_eq_some_iff.1 hc; cases h; rfl
      · split at hc
        · cases hc; rfl
        · cases hc
    subst this; simpa [Op.operands] using ht
  case nilCheck => cases hc; simpa [Op.operands] using ht
  case fieldAddr t' a i =>
    have : xs = [a] := by
      split at hc
      · split at hc
        · split at hc
          · cases hc; rfl
          · cases hc
        · cases hc
      · cases hc
    subst this; simpa [Op.operands] using ht
  case field t' a i =>
    have : xs = [a] := by
      split at hc
      · split at hc
        · split at hc
          · obtain ⟨_, _, h⟩ := Option.map_eq_some_iff.1 hc; cases h; rfl
          · split at hc
            · cases hc; rfl
            · cases hc
        · cases hc
      · cases hc
    subst this; simpa [Op.operands] using ht
  case indexAddr t' a i =>
    have : xs = [a, i] := by
      split at hc
      · obtain ⟨_, _, h⟩ := Option.map_eq_some_iff.1 hc; cases h; rfl
      · obtain ⟨_, _, h⟩ := Option.map_eq_some_iff.1 hc; cases h; rfl
      · cases hc
    subst this; simpa [Op.operands] using ht
  case index t' a i =>
    have : xs = [a, i] := by
      split at hc
      · cases hc; rfl
      · cases hc
    subst this; simpa [Op.operands] using ht
  case slice t' x lo hi mx =>
    have : xs = x :: (lo.toList ++ hi.toList ++ mx.toList) := by
      unfold compSlice at hc
      simp only at hc
      split at hc
      · split at hc
        · cases hc
        · obtain ⟨_, _, h⟩ := Option.map_eq_some_iff.1 hc; cases h; rfl
      · split at hc
        · cases hc
        · obtain ⟨_, _, h⟩ := Option.map_eq_some_iff.1 hc; cases h; rfl
      · split at hc
        · cases hc
        · rename_i hm
          cases hc
          cases mx <;> simp at hm ⊢
      · cases hc
    subst this
    cases lo <;> cases hi <;> cases mx <;> simpa [Op.operands] using ht
  case lookup t' m k' ok =>
    have : xs = [m, k'] := by
      split at hc
      · split at hc
        · cases hc; rfl
        · cases hc
      · cases hc
    subst this; simpa [Op.operands] using ht
  case extract => cases hc; simpa [Op.operands] using ht
  case entry => cases hc; simpa [Op.operands] using ht
  case call c =>
    have key : ∀ x ∈ xs, x ∈ c.args.toList ∨ ∃ v, x = .const v := by
      unfold compCallQ at hc
      split at hc
      · split at hc
        · rename_i t' x hat hx
          split at hc
          · cases hc; intro y hy; simp at hy; exact .inr ⟨_, hy⟩
          all_goals try (cases hc; done)
          all_goals (cases hc; intro y hy; simp at hy; subst hy; left; rw [hx]; simp)
        · cases hc
      · cases hc; exact fun x hx => .inl hx
      · cases hc; exact fun x hx => .inl hx
      · split at hc
        · cases hc; exact fun x hx => .inl hx
        · cases hc
      · cases hc
    rcases key _ ht with h1 | ⟨v, h1⟩
    · simp only [Op.operands, Call.operands, Array.toList_append]
      exact List.mem_append.2 (.inr h1)
    · cases h1

theorem compS_operands {o : Op} {k : SK} {xs : List Operand} (hc : compS P o = some (k, xs)) {t : Nat} (ht : Operand.tmp t ∈ xs) : Operand.tmp t ∈ o.operands.toList := by
  cases o <;> simp only [compS] at hc
  all_goals try (cases hc; done)
  case convert s d x =>
    have : xs = [x] := by
      split at hc
      · split at hc
        · cases hc; rfl
        · cases hc
      · split at hc
        · cases hc; rfl
        · cases hc
      · cases hc
    subst this; simpa [Op.operands] using ht
  case alloc e => obtain ⟨_, _, h⟩ := Option.map_eq_some_iff.1 hc; cases h; cases ht
  case box e x => cases hc; simpa [Op.operands] using ht
  case buildSlice t' n parts =>
    have : xs = parts.toList.map (·.2) := by
      split at hc
      · split at hc
        · split at hc
          · cases hc; rfl
          · cases hc
        · cases hc
      · cases hc
    subst this; simpa [Op.operands] using ht
  case store t' a x => obtain ⟨_, _, h⟩ := Option.map_eq_some_iff.1 hc; cases h; simpa [Op.operands] using ht
  case mapUpdate t' m k' x =>
    have : xs = [m, k', x] := by
      split at hc
      · obtain ⟨_, _, h⟩ := Option.map_eq_some_iff.1 hc; cases h; rfl
      · cases hc
    subst this; simpa [Op.operands] using ht
  case insert t' m k' x =>
    have : xs = [m, k', x] := by
      split at hc
      · obtain ⟨_, _, h⟩ := Option.map_eq_some_iff.1 hc; cases h; rfl
      · cases hc
    subst this; simpa [Op.operands] using ht
  case makeMap t' r =>
    have : xs = r.toList := by
      split at hc
      · obtain ⟨_, _, h⟩ := Option.map_eq_some_iff.1 hc; cases h; rfl
      · cases hc
    subst this
    cases r <;> first | (simp [Op.operands] at ht; done) | simpa [Op.operands] using ht
  case makeSlice t' l c =>
    have : xs = [l, c] := by
      split at hc
      · split at hc
        · cases hc; rfl
        · cases hc
      · cases hc
    subst this; simpa [Op.operands] using ht
  case range t' x =>
    have : xs = [x] := by
      split at hc
      · cases hc; rfl
      · cases hc
    subst this; simpa [Op.operands] using ht
  case call c =>
    have key : xs = c.args.toList := by
      unfold compCallS at hc
      split at hc
      · split at hc
        · rename_i t1 t2 s x hat hx
          split at hc
          · split at hc
            · split at hc
              · cases hc; exact hx.symm
              · cases hc
            · cases hc; exact hx.symm
            · split at hc
              · cases hc; exact hx.symm
              · cases hc
            · cases hc
          · cases hc
        · cases hc
      · split at hc
        · rename_i t1 d s hat hx
          split at hc
          · obtain ⟨_, _, h⟩ := Option.map_eq_some_iff.1 hc; cases h; exact hx.symm
          · cases hc
        · cases hc
      · split at hc
        · rename_i t1 d s hat hx
          split at hc
          · obtain ⟨_, _, h⟩ := Option.map_eq_some_iff.1 hc; cases h; exact hx.symm
          · cases hc
        · cases hc
      · cases hc
    subst key
    simp only [Op.operands, Call.operands, Array.toList_append]
    exact List.mem_append.2 (.inr ht)

theorem mem_looks {ops : Array Oper} {o : Oper} {t : Nat} : t ∈ looks ops o ↔ Operand.tmp t ∈ o.op.operands.toList ∨ ∃ g w, o.guard = some (g, w) ∧ dstOf ops g = some t := by
  unfold looks
  simp only [List.mem_append, List.mem_filterMap]
  constructor
  · rintro (⟨x, h1, h2⟩ | h)
    · left
      cases x <;> simp at h2
      subst h2; exact h1
    · right
      cases hg : o.guard with
      | none => rw [hg] at h; cases h
      | some gw =>
        obtain ⟨g, w⟩ := gw
        rw [hg] at h
        exact ⟨g, w, rfl, by simpa using h⟩
  · rintro (h | ⟨g, w, h1, h2⟩)
    · exact .inl ⟨_, h, rfl⟩
    · right
      rw [h1]
      simpa using h2

/-- what a quiet operation says hangs on the temporaries that it looks at -/
theorem mapXs_congr {trk : Nat} {tm tm' : T AV} : ∀ {xs : List Operand} {ds : List DX}, mapXs P trk [] xs = some ds → (∀ t, Operand.tmp t ∈ xs → tm'.get t = tm.get t) → evalXs tm' [] ds = evalXs tm [] ds
  | [], ds, hm, _ => by cases hm; rfl
  | x :: xs, ds, hm, he => by
    simp only [mapXs] at hm
    split at hm
    · rename_i d r h1 h2
      cases hm
      have e1 : evalX tm' [] d = evalX tm [] d := by
        cases x with
        | tmp t =>
          simp only [mapX, idxOf] at h1
          split at h1
          · cases h1; exact he t (by simp)
          · cases h1
        | const c => simp only [mapX, Option.map_eq_some_iff] at h1; obtain ⟨_, _, rfl⟩ := h1; rfl
        | global g =>
          simp only [mapX] at h1
          split at h1
          · cases h1; rfl
          · cases h1
        | func f => cases h1; rfl
      simp only [evalXs, e1, mapXs_congr h2 fun t ht => he t (by simp [ht])]
    · cases hm
theorem evalQ_congr {trk : Nat} {ops : Array Oper} {o : Oper} {q : DQ} (hq : regQ P trk ops [] o = some q) {tm tm' : T AV} (he : ∀ t ∈ looks ops o, tm'.get t = tm.get t) (h : T AO) : evalQ tm' [] h q = evalQ tm [] h q := by
  unfold regQ at hq
  split at hq
  · rename_i k xs hc
    split at hq
    · rename_i ds g h1 h2
      cases hq
      have e1 := mapXs_congr h1 fun t ht => he t (mem_looks.2 (.inl (compQ_operands hc ht)))
      have e2 : guardOk tm' [] g = guardOk tm [] g := by
        cases hg : o.guard with
        | none => rw [hg] at h2; cases h2; rfl
        | some jw =>
          obtain ⟨j, w⟩ := jw
          rw [hg] at h2
          simp only [regG] at h2
          split at h2
          · rename_i t ht
            obtain ⟨dx, h3, h4⟩ := Option.map_eq_some_iff.1 h2
            subst h4
            have ht' := he t (mem_looks.2 (.inr ⟨j, w, hg, ht⟩))
            simp only [mapX, idxOf] at h3
            split at h3
            · cases h3
              simp only [guardOk, evalX, ht']
            · cases h3
          · cases h2
      simp only [evalQ, e1, e2]
    · cases hq
  · cases hq
theorem evalQ_pure {q : DQ} (hp : pureK q.k = true) (tm : T AV) (env : List AV) (h h' : T AO) : evalQ tm env h q = evalQ tm env h' q := by
  unfold evalQ
  have : ∀ vs, qop q.k vs h = qop q.k vs h' := by
    intro vs
    cases hk : q.k <;> rw [hk] at hp <;> first | (cases hp; done) | rfl
  simp only [this]
end Go.Md
end
