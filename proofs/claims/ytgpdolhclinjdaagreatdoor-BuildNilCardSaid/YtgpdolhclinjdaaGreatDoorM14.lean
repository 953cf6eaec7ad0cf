import Derived.Test.YtgpdolhclinjdaaGreatDoorM2
import Derived.Test.YtgpdolhclinjdaaGreatDoorM13
set_option linter.unusedVariables false
set_option linter.unusedSimpArgs false
set_option linter.unusedSectionVars false
section
/- HANDLERS: what they must keep; calls in a heap of their own; calls that are told by what was run once. No condition. -/
namespace Go.Md
variable {P : Program} {ft : FT} {B : Nat} {w0 w w' : World} {ρ ρ' : Rho} {h h' : T AO} {nx nx' : Nat} {cs0 : List Frame} {rf : Nat}

def HOk (P : Program) (ft : FT) (f : Nat) (hd : Handler) : Prop :=
  ∀ (B : Nat) (w0 : World) ρ h nx w args us v h' nx', Rel P ft B w0 ρ h nx w → VRelL ρ args us → hd args h nx = some (v, h', nx') →
      Calls P f us.toArray w fun e w' => ∃ u ρ', e = .returned u ∧ ρ.le ρ' ∧ VRel ρ' v u ∧ Rel P ft B w0 ρ' h' nx' w'
theorem bigOk_nil : BigOk P ft B w0 .nil := fun f hd h => by cases h
theorem bigOk_set {big : Big} (hb : BigOk P ft B w0 big) (hft : CodeOk P ft) {f : Nat} {df : DF} (hdf : ft.get f = some df) {hd : Handler} (H : HOk P ft f hd) : BigOk P ft B w0 (big.set f hd) := by
  intro g hd' hg
  rw [T.get_set] at hg
  split at hg
  · rename_i e
    subst e
    cases hg
    obtain ⟨fn, hfn, hreg⟩ := hft f df hdf
    exact ⟨⟨fn, hfn, regFn_go hreg⟩, fun ρ h nx w args us v h' nx' R ha hh => H B w0 ρ h nx w args us v h' nx' R ha hh⟩
  · exact hb g hd' hg

/-! values without addresses -/
def flat1 : AV → Bool
  | .undef => true
  | .bool _ => true
  | .int _ _ => true
  | .str _ _ => true
  | _ => false
def flatL : List AV → Bool
  | [] => true
  | v :: r => match flat1 v with
    | true => flatL r
    | false => false
def flat : AV → Bool
  | .agg l => flatL l
  | .tup l => flatL l
  | v => flat1 v
theorem flat1_rel {v : AV} (hf : flat1 v = true) {u : Value} (h : VRel ρ v u) : VRel ρ' v u := by
  cases v <;> first | exact h | (simp [flat1] at hf)
theorem flatL_rel : ∀ {l : List AV}, flatL l = true → ∀ {a : List Value}, VRelL ρ l a → VRelL ρ' l a
  | [], _, _, h => h
  | v :: r, hf, a, ⟨y, s, e, h1, h2⟩ => by
    simp only [flatL] at hf
    split at hf
    · rename_i h0
      exact ⟨y, s, e, flat1_rel h0 h1, flatL_rel hf h2⟩
    · cases hf
theorem flat_rel {v : AV} (hf : flat v = true) {u : Value} (h : VRel ρ v u) : VRel ρ' v u := by
  cases v with
  | agg l => obtain ⟨a, e, h1⟩ := h; exact ⟨a, e, flatL_rel hf h1⟩
  | tup l => obtain ⟨a, e, h1⟩ := h; exact ⟨a, e, flatL_rel hf h1⟩
  | _ => exact flat1_rel (by simpa [flat] using hf) h

/-- the globals alone -/
def Rho.glob (ρ : Rho) (G : Nat) : Rho := fun i => if i < G then ρ i else none
/-- a world of its own -/
theorem Rel.alone (R : Rel P ft B w0 ρ h nx w) : Rel P ft w.heap.size w (ρ.glob P.globals.size) .nil P.globals.size w := by
  refine ⟨fun id o hg => (by cases hg), fun i j oi oj gi gj hi => (by cases hi), fun id g hg => ?_, fun i hi => ?_, Nat.le_refl _, ⟨rfl, rfl, rfl, Nat.le_refl _, fun _ _ => rfl⟩⟩
  · unfold Rho.glob at hg
    split at hg
    · rename_i hlt
      exact ⟨hlt, (R.dom id g hg).2⟩
    · cases hg
  · obtain ⟨g, h1, h2⟩ := R.glob i hi
    exact ⟨g, by simp [Rho.glob, hi, h1], h2⟩
/-- what is kept -/
theorem Rel.back (R : Rel P ft B w0 ρ h nx w) (hb : RowKit.Below w.heap.size w w') : Rel P ft B w0 ρ h nx w' := by
  refine ⟨fun id o hg => ?_, R.inj, fun id g hg => ⟨(R.dom id g hg).1, Nat.lt_of_lt_of_le (R.dom id g hg).2 hb.size⟩, R.glob, Nat.le_trans R.base hb.size, R.below.trans ?_⟩
  · obtain ⟨g, h1, h2, h3⟩ := R.obj id o hg
    exact ⟨g, h1, ORel.mono (Rho.le.refl ρ) (hb.block _ (R.dom id g h1).2) h2, h3⟩
  · exact ⟨hb.os, hb.tape, hb.output, hb.size, fun k hk => hb.block k (Nat.lt_of_lt_of_le hk R.base)⟩

/-- A CALL IN A HEAP OF ITS OWN: its arguments hold no addresses, its answer none -/
theorem iso_ok (hft : CodeOk P ft) (hmix : P.follows .mixedOrders = true) {f : Nat} {df : DF} (hdf : ft.get f = some df) {args : List AV} (hfl : flatL args = true) {v : AV} (hv : flat v = true)
    (E : Ends ft .nil (fun x _ _ => x = v) (entry f df args .nil P.globals.size)) (R : Rel P ft B w0 ρ h nx w) {us : List Value} (ha : VRelL ρ args us) :
    Calls P f us.toArray w fun e w' => ∃ u, e = .returned u ∧ VRel ρ v u ∧ Rel P ft B w0 ρ h nx w' := by
  intro cs
  obtain ⟨e, w2, fr, ⟨u, ρ', v', h2, nx2, rfl, c1, c2, c3, c4⟩, c5⟩ := calls_of_ends hft (big := .nil) bigOk_nil hmix hdf R.alone (flatL_rel hfl ha) E cs
  subst c4
  exact ⟨.returned u, w2, fr, ⟨u, rfl, flat_rel hv c2, R.back c3.below⟩, c5⟩

noncomputable def allV (v : AV) : List (AV × T AO × Nat) → Bool
  | [] => true
  | x :: r => match AV.beq x.1 v with
    | true => allV v r
    | false => false
theorem allV_spec {v : AV} : ∀ {L : List (AV × T AO × Nat)}, allV v L = true → ∀ x ∈ L, x.1 = v
  | [], _, x, hx => by cases hx
  | y :: r, h, x, hx => by
    simp only [allV] at h
    split at h
    · rename_i hb
      rcases List.mem_cons.1 hx with rfl | hx
      · exact (AV.beq_iff _ _).1 hb
      · exact allV_spec h x hx
    · cases h
/-- the handler: run in a heap of its own -/
noncomputable def hIso (ft : FT) (G n f : Nat) (args : List AV) (h : T AO) (nx : Nat) : Out := match flatL args with
  | true => (match ft.get f with
    | some df => (match leavesOf ft .nil n (entry f df args .nil G) with
      | some (x :: r) => (match flat x.1 with
        | true => (match allV x.1 r with
          | true => some (x.1, h, nx)
          | false => none)
        | false => none)
      | _ => none)
    | none => none)
  | false => none
theorem hIso_ok (hft : CodeOk P ft) (hmix : P.follows .mixedOrders = true) {n f G : Nat} (hG : G = P.globals.size) : HOk P ft f (hIso ft G n f) := by
  subst hG
  intro B w0 ρ h nx w args us v h' nx' R ha hh
  unfold hIso at hh
  split at hh
  · rename_i hfl
    split at hh
    · rename_i df hdf
      split at hh
      · rename_i x r hl
        split at hh
        · rename_i hx
          split at hh
          · rename_i hr
            cases hh
            have E := (leaves_ends _ _ _ hl).mono (Q' := fun y _ _ => y = x.1) fun y hy ny hm => by
              rcases List.mem_cons.1 hm with e | hm
              · rw [← e]
              · exact allV_spec hr _ hm
            intro cs
            obtain ⟨e, w2, fr, ⟨u, e1, e2, e3⟩, e4⟩ := iso_ok hft hmix hdf hfl hx E R ha cs
            exact ⟨e, w2, fr, ⟨u, ρ, e1, Rho.le.refl ρ, e2, e3⟩, e4⟩
          · cases hh
        · cases hh
      · cases hh
    · cases hh
  · cases hh

/-- the handler: one answer for one list of arguments, run once in a heap of its own -/
noncomputable def hConst (as : List AV) (v : AV) (args : List AV) (h : T AO) (nx : Nat) : Out := match AV.beqL args as with
  | true => some (v, h, nx)
  | false => none
theorem hConst_ok (hft : CodeOk P ft) (hmix : P.follows .mixedOrders = true) {f : Nat} {df : DF} (hdf : ft.get f = some df) {as : List AV} (hfl : flatL as = true) {v : AV} (hv : flat v = true)
    (E : Ends ft .nil (fun x _ _ => x = v) (entry f df as .nil P.globals.size)) : HOk P ft f (hConst as v) := by
  intro B w0 ρ h nx w args us v' h' nx' R ha hh
  unfold hConst at hh
  split at hh
  · rename_i he
    cases hh
    have := AV.eq_of_beqL _ _ he
    subst this
    intro cs
    obtain ⟨e, w2, fr, ⟨u, e1, e2, e3⟩, e4⟩ := iso_ok hft hmix hdf hfl hv E R ha cs
    exact ⟨e, w2, fr, ⟨u, ρ, e1, Rho.le.refl ρ, e2, e3⟩, e4⟩
  · cases hh

/-! heaps held against one another -/
noncomputable def emptyT {α : Type} (t : T α) : Bool := T.rec (motive := fun _ => Bool) true (fun _ v _ a b => Option.rec (Bool.rec false b a) (fun _ => false) v) t
noncomputable def leT {α : Type} (eq : α → α → Bool) (a : T α) : T α → Bool :=
  T.rec (motive := fun _ => T α → Bool) (fun _ => true)
    (fun l v r il ir t => T.rec (motive := fun _ => Bool) (emptyT (.node l v r))
      (fun l' v' r' _ _ => Bool.rec false (Bool.rec false (ir r') (il l')) (Option.rec true (fun x => Option.rec false (fun y => eq x y) v') v)) t) a
theorem emptyT_node {α : Type} {l r : T α} {v : Option α} (h : emptyT (.node l v r) = true) : v = none ∧ emptyT l = true ∧ emptyT r = true := by
  have h' : @Option.rec _ (fun _ => Bool) (@Bool.rec (fun _ => Bool) false (emptyT r) (emptyT l)) (fun _ => false) v = true := h
  cases v with
  | some _ => cases h'
  | none =>
    cases hl : emptyT l with
    | false => rw [hl] at h'; cases h'
    | true => rw [hl] at h'; exact ⟨rfl, rfl, h'⟩
theorem emptyT_get {α : Type} : ∀ {t : T α}, emptyT t = true → ∀ n, t.get n = none
  | .nil, _, n => rfl
  | .node l v r, h, n => by
    obtain ⟨rfl, h1, h2⟩ := emptyT_node h
    rw [T.get_node]
    split
    · rfl
    · split
      · exact emptyT_get h1 _
      · exact emptyT_get h2 _
theorem leT_get {α : Type} {eq : α → α → Bool} : ∀ {a b : T α}, leT eq a b = true → ∀ n x, a.get n = some x → ∃ y, b.get n = some y ∧ eq x y = true
  | .nil, b, _, n, x, hx => by cases hx
  | .node l v r, .nil, h, n, x, hx => by
    have h' : emptyT (.node l v r) = true := h
    rw [emptyT_get h'] at hx; cases hx
  | .node l v r, .node l' v' r', h, n, x, hx => by
    have h' : @Bool.rec (fun _ => Bool) false (@Bool.rec (fun _ => Bool) false (leT eq r r') (leT eq l l')) (@Option.rec _ (fun _ => Bool) true (fun x => @Option.rec _ (fun _ => Bool) false (fun y => eq x y) v') v) = true := h
    cases hv : @Option.rec _ (fun _ => Bool) true (fun x => @Option.rec _ (fun _ => Bool) false (fun y => eq x y) v') v with
    | false => rw [hv] at h'; cases h'
    | true =>
      rw [hv] at h'
      cases hl : leT eq l l' with
      | false => rw [hl] at h'; cases h'
      | true =>
        rw [hl] at h'
        have hr : leT eq r r' = true := h'
        rw [T.get_node] at hx ⊢
        split at hx
        · subst hx
          simp only at hv
          cases v' with
          | none => cases hv
          | some y => rename_i h0; rw [if_pos h0]; exact ⟨y, rfl, hv⟩
        · rename_i h0
          rw [if_neg h0]
          split at hx
          · rename_i h1; rw [if_pos h1]; exact leT_get hl _ _ hx
          · rename_i h1; rw [if_neg h1]; exact leT_get hr _ _ hx

noncomputable def esBeq : List (AV × AV × Nat) → List (AV × AV × Nat) → Bool
  | [], [] => true
  | x :: r, y :: s => match AV.beq x.1 y.1 with
    | true => (match AV.beq x.2.1 y.2.1 with
      | true => (match Nat.beq x.2.2 y.2.2 with
        | true => esBeq r s
        | false => false)
      | false => false)
    | false => false
  | _, _ => false
theorem esBeq_eq : ∀ {a b : List (AV × AV × Nat)}, esBeq a b = true → a = b
  | [], [], _ => rfl
  | [], _ :: _, h => by cases h
  | _ :: _, [], h => by cases h
  | x :: r, y :: s, h => by
    simp only [esBeq] at h
    split at h
    · rename_i h1
      split at h
      · rename_i h2
        split at h
        · rename_i h3
          obtain ⟨x1, x2, x3⟩ := x
          obtain ⟨y1, y2, y3⟩ := y
          have e1 : x1 = y1 := (AV.beq_iff _ _).1 h1
          have e2 : x2 = y2 := (AV.beq_iff _ _).1 h2
          have e3 : x3 = y3 := eq_of_beq' h3
          rw [e1, e2, e3, esBeq_eq h]
        · cases h
      · cases h
    · cases h
/-- objects that may live at a cut -/
noncomputable def aoLe : AO → AO → Bool
  | .cells l n ro o e, .cells l' n' ro' o' e' => (match Nat.beq n n' with
    | true => (match Nat.beq e e' with
      | true => (match bEq ro ro' with
        | true => (match bEq o o' with
          | true => leT AV.beq l l'
          | false => false)
        | false => false)
      | false => false)
    | false => false)
  | .bytes a n o, .bytes a' n' o' => (match Nat.beq a a' with
    | true => (match Nat.beq n n' with
      | true => bEq o o'
      | false => false)
    | false => false)
  | .map es c sh, .map es' c' sh' => (match Nat.beq c c' with
    | true => (match shEq sh sh' with
      | true => esBeq es es'
      | false => false)
    | false => false)
  | _, _ => false
theorem bEq_spec {a b : Bool} (h : bEq a b = true) : a = b := by cases a <;> cases b <;> first | rfl | cases h
theorem aoLe_spec {o o' : AO} (h : aoLe o o' = true) : OLe o o' := by
  cases o with
  | cells l n ro op e =>
    cases o' with
    | cells l' n' ro' op' e' =>
      simp only [aoLe] at h
      split at h
      · rename_i h1
        split at h
        · rename_i h2
          split at h
          · rename_i h3
            split at h
            · rename_i h4
              refine ⟨fun j v hv => ?_, eq_of_beq' h1, bEq_spec h3, bEq_spec h4, eq_of_beq' h2⟩
              obtain ⟨y, hy, hb⟩ := leT_get h j v hv
              rw [(AV.beq_iff _ _).1 hb]; exact hy
            · cases h
          · cases h
        · cases h
      · cases h
    | _ => simp [aoLe] at h
  | bytes a n op =>
    cases o' with
    | bytes a' n' op' =>
      simp only [aoLe] at h
      split at h
      · rename_i h1
        split at h
        · rename_i h2
          exact ⟨eq_of_beq' h1, eq_of_beq' h2, bEq_spec h⟩
        · cases h
      · cases h
    | _ => simp [aoLe] at h
  | map es c sh =>
    cases o' with
    | map es' c' sh' =>
      simp only [aoLe] at h
      split at h
      · rename_i h1
        split at h
        · rename_i h2
          exact ⟨by rw [esBeq_eq h], eq_of_beq' h1, (shEq_iff _ _).1 h2⟩
        · cases h
      · cases h
    | _ => simp [aoLe] at h
  | _ => cases o' <;> simp [aoLe] at h
theorem hLe_spec {h h' : T AO} (hb : leT aoLe h h' = true) : HLe h h' := fun id o hg => by
  obtain ⟨y, hy, he⟩ := leT_get hb id o hg
  exact ⟨y, hy, aoLe_spec he⟩

/-! what was run once -/
structure Memo where
  args : List AV
  hin : T AO
  nin : Nat
  v : AV
  hout : T AO
  nout : Nat
noncomputable def memoRun (args : List AV) (h : T AO) (nx : Nat) (m : Memo) : Out := match Nat.beq nx m.nin with
  | true => (match AV.beqL args m.args with
    | true => (match leT aoLe m.hin h with
      | true => some (m.v, m.hout, m.nout)
      | false => none)
    | false => none)
  | false => none
noncomputable def hMemo (l : List Memo) (args : List AV) (h : T AO) (nx : Nat) : Out :=
  List.rec (motive := fun _ => Out) none (fun m _ ih => match Nat.beq nx m.nin with
    | true => memoRun args h nx m
    | false => ih) l
def MemoOk (P : Program) (ft : FT) (f : Nat) (m : Memo) : Prop :=
  ∀ (B : Nat) (w0 : World) ρ w us, Rel P ft B w0 ρ m.hin m.nin w → VRelL ρ m.args us →
      Calls P f us.toArray w fun e w' => ∃ u ρ', e = .returned u ∧ ρ.le ρ' ∧ VRel ρ' m.v u ∧ Rel P ft B w0 ρ' m.hout m.nout w'
theorem hMemo_ok {f : Nat} : ∀ {l : List Memo}, (∀ m ∈ l, MemoOk P ft f m) → HOk P ft f (hMemo l)
  | [], _, B, w0, ρ, h, nx, w, args, us, v, h', nx', R, ha, hh => by cases hh
  | m :: l, H, B, w0, ρ, h, nx, w, args, us, v, h', nx', R, ha, hh => by
    have hh' : (match Nat.beq nx m.nin with
      | true => memoRun args h nx m
      | false => hMemo l args h nx) = some (v, h', nx') := hh
    split at hh'
    · unfold memoRun at hh'
      split at hh'
      · rename_i hn
        split at hh'
        · rename_i he
          split at hh'
          · rename_i hl
            cases hh'
            have h1 := AV.eq_of_beqL _ _ he
            have h2 := eq_of_beq' hn
            subst h1; subst h2
            exact H m (by simp) B w0 ρ w us (R.sub (hLe_spec hl) (Nat.le_refl _)) ha
          · cases hh'
        · cases hh'
      · cases hh'
    · exact hMemo_ok (fun m' hm => H m' (by simp [hm])) B w0 ρ h nx w args us v h' nx' R ha hh'

/-- all leaves say what the memo says -/
noncomputable def chkLeaf (m : Memo) (x : AV × T AO × Nat) : Bool := match AV.beq x.1 m.v with
  | true => (match Nat.ble x.2.2 m.nout with
    | true => leT aoLe m.hout x.2.1
    | false => false)
  | false => false
noncomputable def chkLeaves (m : Memo) (o : Option (List (AV × T AO × Nat))) : Bool :=
  Option.rec (motive := fun _ => Bool) false (fun l => List.rec (motive := fun _ => Bool) true (fun x _ ih => match chkLeaf m x with
    | true => ih
    | false => false) l) o
theorem chkLeaves_spec {m : Memo} {o : Option (List (AV × T AO × Nat))} (h : chkLeaves m o = true) : ∃ L, o = some L ∧ ∀ x ∈ L, chkLeaf m x = true := by
  cases o with
  | none => cases h
  | some L =>
    refine ⟨L, rfl, ?_⟩
    induction L with
    | nil => intro x hx; cases hx
    | cons y r ih =>
      have h' : (match chkLeaf m y with
        | true => chkLeaves m (some r)
        | false => false) = true := h
      split at h'
      · rename_i hy
        intro x hx
        rcases List.mem_cons.1 hx with rfl | hx
        · exact hy
        · exact ih h' x hx
      · cases h'
theorem memo_ok (hft : CodeOk P ft) (hmix : P.follows .mixedOrders = true) {big : Big} (hbig : ∀ B w0, BigOk P ft B w0 big) {f : Nat} {df : DF} (hdf : ft.get f = some df) {n : Nat} {m : Memo} (hc : chkLeaves m (leavesOf ft big n (entry f df m.args m.hin m.nin)) = true) : MemoOk P ft f m := by
  intro B w0 ρ w us R ha cs
  obtain ⟨L, hL, hall⟩ := chkLeaves_spec hc
  obtain ⟨e, w2, fr, ⟨u, ρ', v, h2, nx2, rfl, c1, c2, c3, c4⟩, c5⟩ := calls_of_ends hft (hbig B w0) hmix hdf R ha (leaves_ends _ _ _ hL) cs
  have hx := hall _ c4
  unfold chkLeaf at hx
  split at hx
  · rename_i hb
    split at hx
    · rename_i hn
      have e1 := (AV.beq_iff _ _).1 hb
      simp only at e1
      exact ⟨.returned u, w2, fr, ⟨u, ρ', rfl, c1, by rw [← e1]; exact c2, c3.sub (hLe_spec hx) (le_of_ble hn)⟩, c5⟩
    · cases hx
  · cases hx
end Go.Md
end
section
/- HANDLERS BY HAND: what the proofs step with. No condition. -/
namespace Go.Md
variable {P : Program} {ft : FT} {big : Big} {Q : AV → T AO → Nat → Prop}

def EndsR (ft : FT) (big : Big) (Q : AV → T AO → Nat → Prop) : Res → Prop
  | .go s => Ends ft big Q s
  | .fork l => ∀ s ∈ l, Ends ft big Q s
  | .done v h nx => Q v h nx
  | .bad => False
theorem ends_of {s : St} (h : EndsR ft big Q (step ft big s)) : Ends ft big Q s := by
  cases hs : step ft big s with
  | go s2 => rw [hs] at h; exact .go hs h
  | fork l => rw [hs] at h; exact .fork hs h
  | done v hh nx => rw [hs] at h; exact .done hs h
  | bad => rw [hs] at h; exact h.elim
theorem endsR_go (s : St) : EndsR ft big Q (.go s) = Ends ft big Q s := rfl
theorem endsR_done (v : AV) (h : T AO) (nx : Nat) : EndsR ft big Q (.done v h nx) = Q v h nx := rfl
theorem endsR_fork (l : List St) : EndsR ft big Q (.fork l) = ∀ s ∈ l, Ends ft big Q s := rfl

theorem writeCells_at : ∀ (vs : List AV) (off : Nat) (t : T AV) (j : Nat), (writeCells t off vs).get j = if off ≤ j ∧ j < off + vs.length then vs[j - off]? else t.get j
  | [], off, t, j => by
    simp only [writeCells, List.length_nil]
    rw [if_neg (by omega)]
  | v :: r, off, t, j => by
    simp only [writeCells, List.length_cons]
    have e : Nat.add off 1 = off + 1 := rfl
    rw [e, writeCells_at r (off + 1)]
    by_cases h1 : j = off
    · subst h1
      rw [if_neg (by omega), if_pos (by omega), T.get_set_same]
      simp
    · by_cases h2 : off + 1 ≤ j ∧ j < off + 1 + r.length
      · rw [if_pos h2, if_pos (by omega)]
        have : j - off = (j - (off + 1)) + 1 := by omega
        rw [this]; simp
      · rw [if_neg h2, if_neg (by omega), T.get_set_other _ _ (fun h => h1 h.symm)]
theorem treeOf_at (vs : List AV) (j : Nat) : (treeOf vs).get j = vs[j]? := by
  unfold treeOf
  rw [writeCells_at]
  by_cases h : j < vs.length
  · rw [if_pos (by omega)]; simp
  · rw [if_neg (by omega)]
    simp only [T.get_nil]
    exact (List.getElem?_eq_none (by omega)).symm
theorem treeOf_two (a b : AV) : treeOf [a, b] = (T.nil.set 0 a).set 1 b := rfl
theorem treeOf_one (a : AV) : treeOf [a] = T.nil.set 0 a := rfl
theorem treeOf_three (a b c : AV) : treeOf [a, b, c] = ((T.nil.set 0 a).set 1 b).set 2 c := rfl

theorem fresh {B : Nat} {w0 w : World} {ρ : Rho} {h : T AO} {nx : Nat} (R : Rel P ft B w0 ρ h nx w) {id : Nat} (hid : nx ≤ id) : h.get id = none := by
  cases hg : h.get id with
  | none => rfl
  | some o =>
    obtain ⟨g, h1, _⟩ := R.obj id o hg
    have := (R.dom id g h1).1
    omega
theorem HLe.set {h : T AO} {id : Nat} (hn : h.get id = none) (o : AO) : HLe h (h.set id o) := fun i x hx => by
  refine ⟨x, ?_, ?_⟩
  · rw [T.get_set, if_neg]
    · exact hx
    · rintro rfl; rw [hn] at hx; cases hx
  · cases x <;> first | exact ⟨fun _ _ h => h, rfl, rfl, rfl, rfl⟩ | exact ⟨rfl, rfl, rfl⟩ | exact ⟨.refl _, rfl, rfl⟩ | exact rfl
theorem OLe.refl (x : AO) : OLe x x := by
  cases x <;> first | exact ⟨fun _ _ h => h, rfl, rfl, rfl, rfl⟩ | exact ⟨rfl, rfl, rfl⟩ | exact ⟨.refl _, rfl, rfl⟩ | exact rfl
theorem HLe.refl (h : T AO) : HLe h h := fun _ o ho => ⟨o, ho, OLe.refl o⟩

theorem leave_ret (fn : Nat) (tm : T AV) (todo : List AI) (dfs : List Nat) (ret : Bool) (cs : List AF) (h : T AO) (nx : Nat) : leave ⟨fn, tm, todo, none, dfs, ret⟩ cs h nx (some .ret) = .go ⟨⟨fn, tm, todo, none, dfs, true⟩, cs, h, nx⟩ := rfl
theorem leave_end (fn : Nat) (tm : T AV) (todo : List AI) (dfs : List Nat) (ret : Bool) (cs : List AF) (h : T AO) (nx : Nat) : leave ⟨fn, tm, todo, none, dfs, ret⟩ cs h nx none = .go ⟨⟨fn, tm, todo, none, dfs, true⟩, cs, h, nx⟩ := rfl
theorem fwrap_u8 (x : Nat) : fwrap .u8 (.ofNat x) = .ofNat (x % 256) := by
  rw [fwrap_eq]
  simp [IntKind.wrap, IntKind.signed, IntKind.bits]
end Go.Md
end
section
/- crc.Extend: D's code, run as far as its loop goes, answers what 'crcExt' reckons. Condition: the table's function is met by its one answer. -/
namespace Go.Md
variable {P : Program} {ft : FT} {big : Big}

noncomputable def tabL : List AV := (List.range 256).map fun i => .int .u32 (.ofNat (tabAt i))
def dExtBody : DC := .seq (.ops [⟨[⟨none,.bin .lss,[.t 13,.t 12]⟩],[(14,0)],.nop⟩]) (.seq (.cond (.t 14) .skip (.exit 0)) (.seq (.block 1 (.seq (.ops [⟨[⟨none,.mov,[.t 13]⟩,⟨none,.mov,[.e 0]⟩],[(7,0)],.nop⟩]) (.ops [⟨[⟨none,.mov,[.t 6]⟩,⟨none,.bin .shr,[.e 0,.c (.int .u64 (.ofNat 8))]⟩,⟨none,.mov,[.t 6]⟩,⟨none,.conv .u8,[.e 0]⟩,⟨none,.mov,[.t 1]⟩,⟨none,.mov,[.t 7]⟩,⟨none,.ia 1,[.e 1,.e 0]⟩,⟨none,.ld1,[.e 0]⟩,⟨none,.bin .xor,[.e 4,.e 0]⟩,⟨none,.iap 256 1,[.t 5,.e 0]⟩,⟨none,.ld1,[.e 0]⟩,⟨none,.bin .xor,[.e 9,.e 0]⟩,⟨none,.mov,[.e 0]⟩],[(6,0)],.nop⟩]))) (.ops [⟨[⟨none,.bin .add,[.t 13,.c (.int .i64 (.ofNat 1))]⟩,⟨none,.mov,[.e 0]⟩],[(13,0)],.nop⟩])))
def dExtEnd : DC := .seq (.ops [⟨[⟨none,.mov,[.t 6]⟩,⟨none,.un .xor,[.e 0]⟩,⟨none,.mov,[.e 0]⟩],[(4,0)],.nop⟩]) .ret
def dExtend (tab : Nat) : DF := ⟨31,29171,(.seq (.ops [⟨[⟨none,.mov,[.c (.int .u32 (.ofNat 0))]⟩],[(4,0)],.nop⟩]) (.seq (.ops [⟨[],[],.call (some 8) none tab []⟩,⟨[],[],.s (some 5) none (.alloc (repl [.int .u32 (.ofNat 0)] 256)) []⟩,⟨[],[],.s none none (.st 256) [.t 5,.t 8]⟩]) (.seq (.ops [⟨[⟨none,.mov,[.t 0]⟩,⟨none,.un .xor,[.e 0]⟩,⟨none,.mov,[.e 0]⟩],[(6,0)],.nop⟩]) (.seq (.seq (.ops [⟨[⟨none,.mov,[.t 1]⟩,⟨none,.lenl,[.e 0]⟩,⟨none,.mov,[.c (.int .i64 (.ofNat 0))]⟩],[(12,1),(13,0)],.nop⟩]) (.block 0 (.loop dExtBody))) dExtEnd)))),[.t 4]⟩

theorem tabAt_lt (i : Nat) : tabAt i < 4294967296 := Nat.mod_lt _ (by decide)
theorem tabL_len : tabL.length = 256 := by simp [tabL]
theorem tabL_get (i : Nat) (h : i < 256) : tabL[i]? = some (.int .u32 (.ofNat (tabAt i))) := by simp [tabL, h]
theorem crcGo_zero (bits x : Nat) : crcGo 0 bits x = x := rfl
theorem crcGo_succ (n bits x : Nat) : crcGo (n + 1) bits x = crcGo n (bits / 256) ((x / 256) ^^^ tabAt ((x % 256) ^^^ (bits % 256))) := rfl

attribute [local simp] step stepRun stepC stepC1 doSeg doFin finish evalQ guardOk evalXs evalX writeOuts leave_ret leave_end Fin.dst qop qMov qBin qUn qConv qIa qIap qLd1 qLenl evalQs_nil evalQs_cons T.get_set nth_zero nth_succ endsR_go endsR_done bin kEq exitTo retTo tuple results stepRet callFn sop dExtBody dExtEnd

theorem i64_add1 {i : Nat} (h : i < 1073741824) : fwrap .i64 (Int.add (.ofNat i) (.ofNat 1)) = .ofNat (i + 1) := by
  show (match Nat.blt (i + 1) 9223372036854775808 with | true => Int.ofNat (i + 1) | false => _) = _
  rw [blt_t (by omega)]
theorem i64_add1' {i : Nat} (h : i < 1073741824) : fwrap .i64 (Int.ofNat i + 1) = .ofNat (i + 1) := i64_add1 h
theorem tabL_one : allOne tabL = true := by
  have : ∀ l : List Nat, allOne (l.map fun i => AV.int .u32 (.ofNat (tabAt i))) = true := by
    intro l
    induction l with
    | nil => rfl
    | cons x r ih => simp only [List.map_cons, allOne, AV.one]; exact ih
  exact this _
theorem byt_of_sub {bits off len i : Nat} (h : i < len) : subB bits off len / 256 ^ i % 256 = byt bits (off + i) := by
  rw [← byt_def, byt_subB _ _ _ _ h]

theorem ext_loop {h : T AO} {nx id off len bits m : Nat} {cap : Option Nat} {o : Bool} {f tab : Nat} (hft : ft.get f = some (dExtend tab)) (hg : h.get id = some (.bytes bits m o)) (hle : off + len ≤ m) (hlen : len < 1073741824) {tt : T AV} (hnx : h.get nx = some (.cells tt 256 false false 1)) (htt : ∀ i, i < 256 → tt.get i = some (.int .u32 (.ofNat (tabAt i))))
    {Q : AV → T AO → Nat → Prop} {nx2 : Nat} : ∀ (k i x : Nat) (tm : T AV), i + k = len → x < 4294967296 → tm.get 1 = some (.sl id off len cap) → tm.get 5 = some (.ptr nx 0) → tm.get 6 = some (.int .u32 (.ofNat x)) → tm.get 12 = some (.int .i64 (.ofNat len)) → tm.get 13 = some (.int .i64 (.ofNat i)) →
      Q (.int .u32 (.ofNat (crcGo k (subB bits off len / 256 ^ i) x ^^^ 4294967295))) h nx2 →
      Ends ft big Q ⟨⟨f, tm, [.c dExtBody, .lp dExtBody, .blk 0, .c dExtEnd], none, [], false⟩, [], h, nx2⟩
  | 0, i, x, tm, hk, hx, h1, h5, h6, h12, h13, hQ => by
    have hi : i = len := by omega
    subst hi
    apply ends_of; simp [-Int.ofNat_eq_natCast, h12, h13, intBin, iLt, blt_f (Nat.lt_irrefl i)]
    apply ends_of; simp [-Int.ofNat_eq_natCast]
    apply ends_of; simp [-Int.ofNat_eq_natCast]
    apply ends_of; simp [-Int.ofNat_eq_natCast, h6, kTop, blt_t hx, IntKind.signed]
    apply ends_of; simp [-Int.ofNat_eq_natCast]
    apply ends_of; simp [-Int.ofNat_eq_natCast, hft, dExtend]
    rw [crcGo_zero, Nat.xor_comm] at hQ
    exact hQ
  | k + 1, i, x, tm, hk, hx, h1, h5, h6, h12, h13, hQ => by
    have hi : i < len := by omega
    have hb := byt_lt bits (off + i)
    have hx8 : x % 256 < 256 := Nat.mod_lt _ (by decide)
    have hix : (x % 256) ^^^ byt bits (off + i) < 256 := Nat.xor_lt_two_pow (n := 8) hx8 hb
    have hxd : x / 256 < 4294967296 := by omega
    have hxd' : Nat.blt (Nat.div x 256) 4294967296 = true := blt_t hxd
    have hld : load1 h id (off + i) = some (.int .u8 (.ofNat (byt bits (off + i)))) := by
      unfold load1
      rw [hg]
      simp only [blt_t (show off + i < m by omega)]
    have hld2 : load1 h nx ((x % 256) ^^^ byt bits (off + i)) = some (.int .u32 (.ofNat (tabAt ((x % 256) ^^^ byt bits (off + i))))) := by
      unfold load1
      rw [hnx]
      simp only [blt_t hix, htt _ hix]
    apply ends_of; simp [-Int.ofNat_eq_natCast, h12, h13, intBin, iLt, blt_t hi]
    apply ends_of; simp [-Int.ofNat_eq_natCast]
    apply ends_of; simp [-Int.ofNat_eq_natCast]
    apply ends_of; simp [-Int.ofNat_eq_natCast]
    apply ends_of; simp [-Int.ofNat_eq_natCast, h13]
    apply ends_of; simp [-Int.ofNat_eq_natCast, h6, h1, h5, shiftBin, kBits, fwrap_u8, blt_t hi, hld, intBin, inTop, kTop, blt_t hx8, blt_t hb, blt_t hix, hld2, hxd', blt_t (tabAt_lt _)]
    apply ends_of; simp [-Int.ofNat_eq_natCast]
    apply ends_of; simp [-Int.ofNat_eq_natCast, h13, intBin, i64_add1' (show i < 1073741824 by omega)]
    apply ends_of; simp [-Int.ofNat_eq_natCast]
    refine ext_loop (cap := cap) hft hg hle hlen hnx htt k (i + 1) ((x / 256) ^^^ tabAt ((x % 256) ^^^ byt bits (off + i))) _ (by omega) (Nat.xor_lt_two_pow (n := 32) hxd (tabAt_lt _)) ?_ ?_ ?_ ?_ ?_ ?_
    · simpa using h1
    · simpa using h5
    · simp; rfl
    · simpa using h12
    · simp
    · rw [crcGo_succ, Nat.div_div_eq_div_mul, ← Nat.pow_succ, byt_of_sub hi] at hQ
      exact hQ

theorem ext_ends {h : T AO} {nx id off len bits m sum : Nat} {cap : Option Nat} {o : Bool} {f tab : Nat} (hft : ft.get f = some (dExtend tab)) (htab : big.get tab = some (hConst [] (.agg tabL))) (hfr : h.get nx = none) (hg : h.get id = some (.bytes bits m o)) (hle : off + len ≤ m) (hlen : len < 1073741824) (hsum : sum < 4294967296) :
    Ends ft big (fun v h' nx' => v = .int .u32 (.ofNat (crcExt sum (subB bits off len) len)) ∧ HLe h h' ∧ nx' = nx + 1) (entry f (dExtend tab) [.int .u32 (.ofNat sum), .sl id off len cap] h nx) := by
  have hne : nx ≠ id := by rintro rfl; rw [hfr] at hg; cases hg
  unfold entry dExtend
  rw [treeOf_two]
  apply ends_of; simp [-Int.ofNat_eq_natCast]
  apply ends_of; simp [-Int.ofNat_eq_natCast, htab, hConst, AV.beqL]
  apply ends_of; simp [-Int.ofNat_eq_natCast, sAlloc, newObj, repl_length]
  apply ends_of; simp [-Int.ofNat_eq_natCast, sSt, storeCells, AV.cells, tabL_len, tabL_one]
  apply ends_of; simp [-Int.ofNat_eq_natCast, kTop, blt_t hsum, IntKind.signed]
  apply ends_of; simp [-Int.ofNat_eq_natCast]
  apply ends_of; simp [-Int.ofNat_eq_natCast]
  apply ends_of; simp [-Int.ofNat_eq_natCast]
  apply ends_of; simp [-Int.ofNat_eq_natCast]
  refine ext_loop (cap := cap) (o := o) (bits := bits) (m := m) (id := id) (off := off) (len := len) (nx := nx) (tab := tab) (tt := writeCells (treeOf (repl [AV.int IntKind.u32 0] 256)) 0 tabL) hft ?_ hle hlen (by simp) ?_ len 0 (4294967295 ^^^ sum) _ (by omega) ?_ (by simp) (by simp) (by simp) (by simp) (by simp) ?_
  · simp [hne, hg]
  · intro i hi
    rw [writeCells_at, tabL_len, if_pos (by omega)]
    exact tabL_get i hi
  · exact Nat.xor_lt_two_pow (n := 32) (by decide) hsum
  · refine ⟨?_, ?_, rfl⟩
    · simp only [Nat.pow_zero, Nat.div_one]
      rw [Nat.xor_comm 4294967295 sum]
      rfl
    · intro i x hx
      refine ⟨x, ?_, OLe.refl x⟩
      have : nx ≠ i := by rintro rfl; rw [hfr] at hx; cases hx
      simp [this, hx]

theorem hCrc_ok (hft : CodeOk P ft) (hmix : P.follows .mixedOrders = true) {f tab : Nat} (hdf : ft.get f = some (dExtend tab)) {dt : DF} (hdt : ft.get tab = some dt) (E : Ends ft .nil (fun x _ _ => x = .agg tabL) (entry tab dt [] .nil P.globals.size)) : HOk P ft f hCrc := by
  intro B w0 ρ h nx w args us v h' nx' R ha hh
  unfold hCrc at hh
  split at hh
  · rename_i sum id off len cap
    split at hh
    · rename_i hs
      split at hh
      · rename_i bits m o hg
        split at hh
        · rename_i hle
          split at hh
          · rename_i hlen
            cases hh
            have hbig : BigOk P ft B w0 (T.nil.set tab (hConst [] (.agg tabL))) := bigOk_set bigOk_nil hft hdt (hConst_ok hft hmix hdt rfl (by
              have : ∀ l : List Nat, flatL (l.map fun i => AV.int .u32 (.ofNat (tabAt i))) = true := by
                intro l
                induction l with
                | nil => rfl
                | cons x r ih => simp only [List.map_cons, flatL, flat1]; exact ih
              exact this _) E)
            have E2 := ext_ends (ft := ft) (big := T.nil.set tab (hConst [] (.agg tabL))) (cap := cap) hdf (by simp [T.get_set]) (fresh R (Nat.le_refl _)) hg (le_of_ble hle) (lt_of_blt hlen) (lt_of_blt hs)
            intro cs
            obtain ⟨e, w2, fr, ⟨u, ρ', v', h2, nx2, e1, e2, e3, e4, rfl, e6, rfl⟩, e7⟩ := calls_of_ends hft hbig hmix hdf R ha E2 cs
            exact ⟨e, w2, fr, ⟨u, ρ', e1, e2, e3, e4.sub e6 (Nat.le_refl _)⟩, e7⟩
          · cases hh
        · cases hh
      · cases hh
    · cases hh
  · cases hh
end Go.Md
end
section
/- disk.Used: whatever the order of the files, the sum is one. -/
namespace Go.Md
variable {P : Program} {ft : FT} {big : Big}

/-! going through a map -/
theorem leftOf_nil (es : List (AV × AV × Nat)) : leftOf [] es = es := by
  induction es with
  | nil => rfl
  | cons e r ih => simp [leftOf, memN, ih]
theorem leftOf_cons {seen : List Nat} : ∀ {es : List (AV × AV × Nat)}, (es.map (·.2.2)).Nodup → ∀ {e : AV × AV × Nat}, e ∈ leftOf seen es → (leftOf seen es).Perm (e :: leftOf (e.2.2 :: seen) es)
  | [], _, e, he => by cases he
  | x :: r, hn, e, he => by
    simp only [List.map_cons, List.nodup_cons] at hn
    obtain ⟨hm1, hm2⟩ := mem_leftOf.1 he
    have hno : ∀ y ∈ r, y.2.2 ≠ x.2.2 := fun y hy e => hn.1 (e ▸ List.mem_map_of_mem hy)
    by_cases hx : x = e
    · subst hx
      have h1 : memN x.2.2 seen = false := memN_false.2 hm2
      have h2 : memN x.2.2 (x.2.2 :: seen) = true := memN_iff.2 (by simp)
      have h3 : ∀ l : List (AV × AV × Nat), (∀ y ∈ l, y.2.2 ≠ x.2.2) → leftOf (x.2.2 :: seen) l = leftOf seen l := by
        intro l
        induction l with
        | nil => intro _; rfl
        | cons y l ih =>
          intro hl
          have : memN y.2.2 (x.2.2 :: seen) = memN y.2.2 seen := by
            rw [Bool.eq_iff_iff, memN_iff, memN_iff]
            have := hl y (by simp)
            simp [this]
          simp only [leftOf, this, ih (fun z hz => hl z (by simp [hz]))]
      simp only [leftOf, h1, h2, h3 r hno]
      exact .refl _
    · have her : e ∈ r := (List.mem_cons.1 hm1).resolve_left (fun h => hx h.symm)
      have hne : x.2.2 ≠ e.2.2 := fun h => hno e her h.symm
      have hmx : memN x.2.2 (e.2.2 :: seen) = memN x.2.2 seen := by
        rw [Bool.eq_iff_iff, memN_iff, memN_iff]; simp [hne]
      have ih := leftOf_cons hn.2 (e := e) (seen := seen) (mem_leftOf.2 ⟨her, hm2⟩)
      simp only [leftOf, hmx]
      split
      · exact ih
      · exact (ih.cons x).trans (.swap _ _ _)
theorem allBefore_of {c : Nat} : ∀ {es : List (AV × AV × Nat)}, (∀ x ∈ es, x.2.2 < c) → allBefore c es = true
  | [], _ => rfl
  | e :: r, h => by
    simp only [allBefore, blt_t (h e (by simp))]
    exact allBefore_of fun x hx => h x (by simp [hx])
theorem nextKnown_of {c : Nat} {seen : List Nat} {es : List (AV × AV × Nat)} (h : ∀ x ∈ es, x.2.2 < c) : nextKnown c seen es = true := by
  cases seen with
  | nil => rfl
  | cons s r =>
    cases es with
    | nil => rfl
    | cons e l => simp only [nextKnown, someBefore, blt_t (h e (by simp))]
theorem nextOuts_map {h : T AO} {it m c : Nat} {seen : List Nat} {es : List (AV × AV × Nat)} {sh : KSh} (h1 : h.get it = some (.miter (some m) c seen c)) (h2 : h.get m = some (.map es c sh)) (hlt : ∀ x ∈ es, x.2.2 < c) :
    nextOuts (.ptr it 0) h = match leftOf seen es with
      | [] => some [(.tup [.bool false], h)]
      | l => some (l.map fun e => (.tup [.bool true, e.1, e.2.1], h.set it (.miter (some m) c (e.2.2 :: seen) c))) := by
  unfold nextOuts
  simp only [h1, h2, allBefore_of (fun x hx => hlt x (mem_leftOf.1 hx).1), nextKnown_of hlt]
  rfl
theorem findStamp_of : ∀ {es : List (AV × AV × Nat)}, (es.map (·.2.2)).Nodup → ∀ {e : AV × AV × Nat}, e ∈ es → findStamp e.2.2 es = some (e.1, e.2.1)
  | [], _, e, he => by cases he
  | (k, v, n) :: r, hn, e, he => by
    simp only [List.map_cons, List.nodup_cons] at hn
    simp only [findStamp]
    by_cases hx : (k, v, n) = e
    · subst hx; simp
    · have her : e ∈ r := (List.mem_cons.1 he).resolve_left (fun h => hx h.symm)
      have : n ≠ e.2.2 := fun h => hn.1 (h ▸ List.mem_map_of_mem her)
      have hb : Nat.beq n e.2.2 = false := by
        cases hb : Nat.beq n e.2.2 with
        | false => rfl
        | true => exact absurd (eq_of_beq' hb) this
      rw [hb]
      exact findStamp_of hn.2 her

/-! the sum -/
theorem sumUsed_perm {h : T AO} {a b : List (AV × AV × Nat)} (hp : a.Perm b) : sumUsed h a = sumUsed h b := by
  induction hp with
  | nil => rfl
  | cons x _ ih => simp only [sumUsed, ih]
  | swap x y l =>
    simp only [sumUsed]
    cases usedOf h x.2.1 <;> cases usedOf h y.2.1 <;> cases sumUsed h l <;> simp [Nat.add_left_comm]
  | trans _ _ ih1 ih2 => exact ih1.trans ih2

def dSectors : DF := ⟨7,5,(.seq (.ops [⟨[⟨none,.mov,[.c (.int .i64 (.ofNat 0))]⟩],[(2,0)],.nop⟩]) (.seq (.ops [⟨[⟨none,.mov,[.t 0]⟩,⟨none,.bin .add,[.e 0,.c (.int .i64 (.ofNat 64))]⟩,⟨none,.bin .sub,[.e 0,.c (.int .i64 (.ofNat 1))]⟩,⟨none,.bin .quo,[.e 0,.c (.int .i64 (.ofNat 64))]⟩,⟨none,.mov,[.e 0]⟩],[(2,0)],.nop⟩]) .ret)),[.t 2]⟩
def dUsedBody (sec : Nat) : DC := .seq (.ops [⟨[],[],.nx (some 13) (.t 12)⟩,⟨[⟨none,.ext 0,[.t 13]⟩],[(14,0)],.nop⟩]) (.seq (.cond (.t 14) .skip (.exit 0)) (.block 1 (.seq (.ops [⟨[⟨none,.entm,[.t 12]⟩,⟨none,.ext 1,[.e 0]⟩,⟨none,.mov,[.e 0]⟩],[(5,0)],.nop⟩]) (.ops [⟨[⟨none,.mov,[.t 3]⟩,⟨none,.mov,[.t 5]⟩,⟨none,.nilc,[.e 0]⟩,⟨none,.fa 0,[.e 0]⟩,⟨none,.ld1,[.e 0]⟩,⟨none,.lenl,[.e 0]⟩],[(17,5)],.call (some 23) none sec [.e 0]⟩,⟨[⟨none,.bin .add,[.t 17,.t 23]⟩,⟨none,.mov,[.e 0]⟩],[(3,0)],.nop⟩]))))
def dUsedEnd : DC := .seq (.ops [⟨[⟨none,.mov,[.t 3]⟩,⟨none,.mov,[.e 0]⟩],[(2,0)],.nop⟩]) .ret
def dUsed (sec : Nat) : DF := ⟨26,8548525,(.seq (.ops [⟨[⟨none,.mov,[.c (.int .i64 (.ofNat 0))]⟩],[(2,0)],.nop⟩]) (.seq (.seq (.ops [⟨[⟨none,.mov,[.t 0]⟩,⟨none,.eqv false .ptr,[.e 0,.c .pnil]⟩],[(7,0)],.nop⟩]) (.cond (.t 7) (.seq (.ops [⟨[⟨none,.mov,[.c (.int .i64 (.ofNat 0))]⟩],[(2,0)],.nop⟩]) .ret) .skip)) (.seq (.ops [⟨[⟨none,.mov,[.c (.int .i64 (.ofNat 0))]⟩],[(3,0)],.nop⟩]) (.seq (.seq (.ops [⟨[⟨none,.mov,[.t 0]⟩,⟨none,.nilc,[.e 0]⟩,⟨none,.fa 0,[.e 0]⟩,⟨none,.ld1,[.e 0]⟩],[],.s (some 12) none (.rngm) [.e 0]⟩]) (.block 0 (.loop (dUsedBody sec)))) dUsedEnd)))),[.t 2]⟩

attribute [local simp] step stepRun stepC stepC1 doSeg doFin finish evalQ guardOk evalXs evalX writeOuts leave_ret leave_end Fin.dst qop qMov qBin qUn qConv qIa qIap qLd1 qExt qNilc qFa qEqv eqAny flatEq evalQs_nil evalQs_cons T.get_set nth_zero nth_succ endsR_go endsR_done endsR_fork bin kEq exitTo retTo tuple results stepRet callFn sop enter dUsedBody dUsedEnd
theorem i64_add {a b : Nat} (h : a + b < 9223372036854775808) : fwrap .i64 (Int.add (.ofNat a) (.ofNat b)) = .ofNat (a + b) := by
  show (match Nat.blt (a + b) 9223372036854775808 with | true => Int.ofNat (a + b) | false => _) = _
  rw [blt_t h]
theorem load1_congr {h H : T AO} {id off : Nat} (he : H.get id = h.get id) : load1 H id off = load1 h id off := by
  unfold load1; rw [he]
theorem load1_ne {h : T AO} {id it off : Nat} {v : AV} (hl : load1 h id off = some v) (hfr : h.get it = none) : id ≠ it := by
  rintro rfl
  unfold load1 at hl
  rw [hfr] at hl
  cases hl
theorem usedOf_some {h : T AO} {v : AV} {a : Nat} (hu : usedOf h v = some a) : ∃ id off x ln, v = .ptr id off ∧ load1 h id off = some x ∧ qLenl [x] h = some (.int .i64 (.ofNat ln)) ∧ a = (ln + 63) / 64 := by
  unfold usedOf at hu
  split at hu
  · rename_i id off
    split at hu
    · rename_i a' b' n c' hl
      cases hu
      exact ⟨id, off, _, n, rfl, hl, rfl, rfl⟩
    · rename_i hl
      cases hu
      exact ⟨id, off, _, 0, rfl, hl, rfl, rfl⟩
    · cases hu
  · cases hu
theorem i64_sec {n : Nat} (h : n < 4611686018427387904) : Int.tdiv (fwrap .i64 (Int.sub (fwrap .i64 (Int.add (.ofNat n) (.ofNat 64))) (.ofNat 1))) (.ofNat 64) = .ofNat ((n + 63) / 64) := by
  rw [i64_add (by omega)]
  have : Int.sub (.ofNat (n + 64)) (.ofNat 1) = .ofNat (n + 63) := by
    show ((n + 64 : Nat) : Int) - 1 = ((n + 63 : Nat) : Int)
    omega
  rw [this]
  have : fwrap .i64 (.ofNat (n + 63)) = .ofNat (n + 63) := by
    show (match Nat.blt (n + 63) 9223372036854775808 with | true => Int.ofNat (n + 63) | false => _) = _
    rw [blt_t (by omega)]
  rw [this]
  rfl
theorem i64_id {n : Nat} (h : n < 9223372036854775808) : fwrap .i64 (.ofNat n) = .ofNat n := by
  show (match Nat.blt n 9223372036854775808 with | true => Int.ofNat n | false => _) = _
  rw [blt_t h]
theorem used_loop {h : T AO} {it m c f sec : Nat} {es : List (AV × AV × Nat)} {sh : KSh} (hft : ft.get f = some (dUsed sec)) (hsec : ft.get sec = some dSectors) (hnb : big.get sec = none) (hm : h.get m = some (.map es c sh)) (hmi : m ≠ it) (hlt : ∀ x ∈ es, x.2.2 < c) (hnd : (es.map (·.2.2)).Nodup)
    {Q : AV → T AO → Nat → Prop} {nx2 total : Nat} (htot : total < 1073741824) (hfr : h.get it = none) : ∀ (k : Nat) (seen : List Nat) (n rem : Nat) (tm : T AV) (H : T AO), (leftOf seen es).length = k → sumUsed h (leftOf seen es) = some rem → n + rem = total → (∀ i, i ≠ it → H.get i = h.get i) → H.get it = some (.miter (some m) c seen c) →
      tm.get 3 = some (.int .i64 (.ofNat n)) → tm.get 12 = some (.ptr it 0) → (∀ H', (∀ i, i ≠ it → H'.get i = h.get i) → Q (.int .i64 (.ofNat total)) H' nx2) →
      Ends ft big Q ⟨⟨f, tm, [.c (dUsedBody sec), .lp (dUsedBody sec), .blk 0, .c dUsedEnd], none, [], false⟩, [], H, nx2⟩ := by
  intro k
  induction k with
  | zero =>
    intro seen n rem tm H hk hs hn hH hit h3 h12 hQ
    have hl : leftOf seen es = [] := List.eq_nil_of_length_eq_zero hk
    rw [hl] at hs
    cases hs
    have hno := nextOuts_map hit (by rw [hH m hmi]; exact hm) hlt
    rw [hl] at hno
    apply ends_of; simp [-Int.ofNat_eq_natCast, h12, hno]
    apply ends_of; simp [-Int.ofNat_eq_natCast]
    apply ends_of; simp [-Int.ofNat_eq_natCast]
    apply ends_of; simp [-Int.ofNat_eq_natCast]
    apply ends_of; simp [-Int.ofNat_eq_natCast, h3]
    apply ends_of; simp [-Int.ofNat_eq_natCast]
    apply ends_of; simp [-Int.ofNat_eq_natCast, hft, dUsed]
    have : n = total := by omega
    subst this
    exact hQ H hH
  | succ k ih =>
    intro seen n rem tm H hk hs hn hH hit h3 h12 hQ
    have hno := nextOuts_map hit (by rw [hH m hmi]; exact hm) hlt
    have hno2 : nextOuts (.ptr it 0) H = some ((leftOf seen es).map fun e => (.tup [.bool true, e.1, e.2.1], H.set it (.miter (some m) c (e.2.2 :: seen) c))) := by
      rw [hno]
      cases hl : leftOf seen es with
      | nil => rw [hl] at hk; cases hk
      | cons x r => rfl
    apply ends_of; simp [-Int.ofNat_eq_natCast, h12, hno2]
    rintro s k0 v0 st hmem rfl
    have hp := leftOf_cons hnd hmem
    rw [sumUsed_perm hp] at hs
    simp only [sumUsed] at hs
    split at hs
    · rename_i a ha
      split at hs
      · rename_i b hb
        cases hs
        obtain ⟨id, off, x, ln, rfl, hl, hln, rfl⟩ := usedOf_some ha
        have hne := load1_ne hl hfr
        have hl2 : load1 (H.set it (.miter (some m) c (st :: seen) c)) id off = some x := by
          rw [load1_congr (h := h)]
          · exact hl
          · rw [T.get_set_other _ _ hne.symm, hH id hne]
        have hent : qEntm [.ptr it 0] (H.set it (.miter (some m) c (st :: seen) c)) = some (.tup [k0, .ptr id off]) := by
          unfold qEntm
          simp [T.get_set, Ne.symm hmi, hH m hmi, hm, findStamp_of hnd (mem_leftOf.1 hmem).1]
        have hn' : n + ((ln + 63) / 64 + b) = total := hn
        have hlnb : ln < 4611686018427387904 := by omega
        have hlen2 : qLenl [x] (H.set it (.miter (some m) c (st :: seen) c)) = some (.int .i64 (.ofNat ln)) := hln
        apply ends_of; simp [-Int.ofNat_eq_natCast]
        apply ends_of; simp [-Int.ofNat_eq_natCast]
        apply ends_of; simp [-Int.ofNat_eq_natCast]
        apply ends_of; simp [-Int.ofNat_eq_natCast]
        apply ends_of; simp [-Int.ofNat_eq_natCast, h12, hent]
        apply ends_of; simp [-Int.ofNat_eq_natCast, h3, hl2, hlen2, hnb, hsec, dSectors, treeOf_one]
        apply ends_of; simp [-Int.ofNat_eq_natCast]
        have hq : ((fwrap .i64 ((fwrap .i64 (Int.ofNat ln + 64)).sub 1)).tdiv 64) = .ofNat ((ln + 63) / 64) := i64_sec hlnb
        have h64 : iEq 64 0 = false := rfl
        have hid : fwrap .i64 (.ofNat ((ln + 63) / 64)) = .ofNat ((ln + 63) / 64) := i64_id (by omega)
        have hadd : fwrap .i64 (Int.ofNat n + Int.ofNat ((ln + 63) / 64)) = .ofNat (n + (ln + 63) / 64) := i64_add (by omega)
        apply ends_of; simp [-Int.ofNat_eq_natCast, intBin, hq, h64, hid]
        apply ends_of; simp [-Int.ofNat_eq_natCast]
        apply ends_of; simp [-Int.ofNat_eq_natCast, hsec, dSectors]
        apply ends_of; simp [-Int.ofNat_eq_natCast, intBin, hadd]
        apply ends_of; simp [-Int.ofNat_eq_natCast]
        apply ends_of; simp [-Int.ofNat_eq_natCast]
        refine ih (st :: seen) (n + (ln + 63) / 64) b _ _ ?_ hb (by omega) ?_ ?_ (by simp) (by simp [h12]) hQ
        · have := hp.length_eq
          simp only [List.length_cons] at this
          omega
        · intro i hi
          rw [T.get_set_other _ _ hi.symm, hH i hi]
        · simp
      · cases hs
    · cases hs

theorem used_ends {h : T AO} {d m c f sec nx total : Nat} {es : List (AV × AV × Nat)} {sh : KSh} (hft : ft.get f = some (dUsed sec)) (hsec : ft.get sec = some dSectors) (hnb : big.get sec = none) (hd : load1 h d 0 = some (.mp m)) (hm : h.get m = some (.map es c sh)) (hlt : ∀ x ∈ es, x.2.2 < c) (hnd : (es.map (·.2.2)).Nodup)
    (hs : sumUsed h es = some total) (htot : total < 1073741824) (hfr : h.get nx = none) :
    Ends ft big (fun v h' nx' => v = .int .i64 (.ofNat total) ∧ HLe h h' ∧ nx' = nx + 1) (entry f (dUsed sec) [.ptr d 0] h nx) := by
  have hmi : m ≠ nx := by rintro rfl; rw [hfr] at hm; cases hm
  unfold entry dUsed
  rw [treeOf_one]
  apply ends_of; simp [-Int.ofNat_eq_natCast]
  apply ends_of; simp [-Int.ofNat_eq_natCast]
  apply ends_of; simp [-Int.ofNat_eq_natCast]
  apply ends_of; simp [-Int.ofNat_eq_natCast]
  apply ends_of; simp [-Int.ofNat_eq_natCast]
  apply ends_of; simp [-Int.ofNat_eq_natCast]
  apply ends_of; simp [-Int.ofNat_eq_natCast]
  apply ends_of; simp [-Int.ofNat_eq_natCast, hd, sRngm, hm, newObj]
  apply ends_of; simp [-Int.ofNat_eq_natCast]
  apply ends_of; simp [-Int.ofNat_eq_natCast]
  refine used_loop (h := h) (it := nx) (m := m) (c := c) (es := es) (sh := sh) (total := total) hft hsec hnb hm hmi hlt hnd htot hfr es.length [] 0 total _ _ (by rw [leftOf_nil]) (by rw [leftOf_nil]; exact hs) (by omega) ?_ (by simp) (by simp) (by simp) ?_
  · intro i hi
    rw [T.get_set_other _ _ hi.symm]
  · intro H' hH'
    refine ⟨rfl, ?_, rfl⟩
    intro i x hx
    refine ⟨x, ?_, OLe.refl x⟩
    rw [hH' i]
    · exact hx
    · rintro rfl; rw [hfr] at hx; cases hx

theorem hUsed_ok (hft : CodeOk P ft) (hmix : P.follows .mixedOrders = true) {f sec : Nat} (hdf : ft.get f = some (dUsed sec)) (hsec : ft.get sec = some dSectors) : HOk P ft f hUsed := by
  intro B w0 ρ h nx w args us v h' nx' R ha hh
  unfold hUsed at hh
  split at hh
  · rename_i d
    split at hh
    · rename_i m hd
      split at hh
      · rename_i es c sh hm
        split at hh
        · rename_i total hs
          split at hh
          · rename_i ht
            cases hh
            obtain ⟨g, hρ, _, _⟩ := R.obj _ _ hm
            obtain ⟨_, _, _, _, _, _, hnd, hlt, _⟩ := R.map hm hρ
            have E := used_ends (ft := ft) (big := .nil) (sec := sec) hdf hsec rfl hd hm hlt hnd hs (lt_of_blt ht) (fresh R (Nat.le_refl _))
            intro cs
            obtain ⟨e, w2, fr, ⟨u, ρ', v', h2, nx2, e1, e2, e3, e4, rfl, e6, rfl⟩, e7⟩ := calls_of_ends hft (big := .nil) bigOk_nil hmix hdf R ha E cs
            exact ⟨e, w2, fr, ⟨u, ρ', e1, e2, e3, e4.sub e6 (Nat.le_refl _)⟩, e7⟩
          · cases hh
        · cases hh
      · cases hh
    · cases hh
  · cases hh
end Go.Md
end
