import Derived.Test.YtgpdolhclinjdaaGreatDoorM14
import Derived.Test.YtgpdolhclinjdaaGreatDoorM17
set_option linter.unusedVariables false
set_option linter.unusedSimpArgs false
set_option linter.unusedSectionVars false
section
/- FOR THE LAWS OF A NUMBER: a law's run told as a constant; pool.New, whatever the frames (they are left unsaid). No condition. -/
namespace Go.Md
variable {P : Program} {ft : FT} {big : Big}

/-- a call from nothing, run once, told anywhere -/
theorem hConstM_ok {f : Nat} {x : Bool} {hout : T AO} {nout : Nat} (hm : MemoOk P ft f ⟨[], .nil, P.globals.size, .bool x, hout, nout⟩) : HOk P ft f (hConst [] (.bool x)) := by
  intro B w0 ρ h nx w args us v' h' nx' R ha hh
  unfold hConst at hh
  split at hh
  · rename_i he
    cases hh
    have e1 := AV.eq_of_beqL _ _ he
    subst e1
    intro cs
    obtain ⟨e, w2, fr, ⟨u, ρ', e1, _, e3, e4⟩, e5⟩ := hm _ _ _ _ us R.alone (by cases ha; rfl) cs
    have : u = .bool x := e3
    subst this
    exact ⟨e, w2, fr, ⟨_, ρ, e1, Rho.le.refl ρ, rfl, R.back e4.below⟩, e5⟩
  · cases hh

def dPool : DF := ⟨22,2949747,(.seq (.ops [⟨[⟨none,.mov,[.c .pnil]⟩,⟨none,.mov,[.c (.int .i64 (.ofNat 0))]⟩],[(4,1),(5,0)],.nop⟩]) (.seq (.block 0 (.seq (.ops [⟨[⟨none,.mov,[.t 0]⟩,⟨none,.eqv false .ptr,[.e 0,.c .pnil]⟩,⟨none,.mov,[.e 0]⟩],[(6,0)],.nop⟩]) (.cond (.t 6) (.seq (.ops [⟨[⟨none,.mov,[.c .pnil]⟩,⟨none,.mov,[.c (.int .i64 (.ofNat 2))]⟩],[(4,1),(5,0)],.nop⟩]) .ret) (.seq (.ops [⟨[⟨none,.mov,[.t 1]⟩,⟨none,.bin .lss,[.e 0,.c (.int .i64 (.ofNat 1))]⟩,⟨none,.mov,[.e 0]⟩,⟨(some (.e 0,false)),.mov,[.t 1]⟩,⟨(some (.e 1,false)),.bin .gtr,[.e 0,.c (.int .i64 (.ofNat 4096))]⟩,⟨none,.pick,[.e 2,.c (.bool true),.e 0]⟩,⟨none,.mov,[.e 0]⟩],[(9,0)],.nop⟩]) (.cond (.t 9) (.seq (.ops [⟨[⟨none,.mov,[.c .pnil]⟩,⟨none,.mov,[.c (.int .i64 (.ofNat 1))]⟩],[(4,1),(5,0)],.nop⟩]) .ret) .skip))))) (.seq (.ops [⟨[⟨none,.mov,[.t 0]⟩,⟨none,.mov,[.t 1]⟩],[(16,1)],.s (some 18) none (.mks false 7 [(.bool false),(.str 0 0),(.int .i64 (.ofNat 0)),.snil,(.int .i64 (.ofNat 0)),(.bool false),(.bool false)]) [.e 0,.e 0]⟩,⟨[],[],.s (some 19) none (.mkm (.agg [.str,.int .i64])) []⟩,⟨[⟨none,.build [.pnil,.snil,.mnil,(.int .i64 (.ofNat 0)),(.int .i64 (.ofNat 0)),(.int .i64 (.ofNat 0))] [(0,1),(1,1),(2,1)],[.t 16,.t 18,.t 19]⟩],[],.s (some 21) none (.box) [.e 0]⟩,⟨[⟨none,.mov,[.t 21]⟩,⟨none,.mov,[.c (.int .i64 (.ofNat 0))]⟩],[(4,1),(5,0)],.nop⟩]) .ret))),[.t 4,.t 5]⟩
/-- pool.New; of the frames nothing is said -/
noncomputable def hPool (args : List AV) (h : T AO) (nx : Nat) : Out := match args with
  | [.ptr id off, .int .i64 (.ofNat k)] => (match Nat.ble 1 k with
    | true => (match Nat.ble k 4096 with
      | true => some (.tup [.ptr (Nat.add nx 2) 0, .int .i64 (.ofNat 0)], (h.set (Nat.add nx 1) (.map [] 0 (.agg [.str, .int .i64]))).set (Nat.add nx 2) (.cells (((((T.nil.set 0 (.ptr id off)).set 2 (.mp (Nat.add nx 1))).set 3 (.int .i64 (.ofNat 0))).set 4 (.int .i64 (.ofNat 0))).set 5 (.int .i64 (.ofNat 0))) 6 false false 1), Nat.add nx 3)
      | false => none)
    | false => none)
  | _ => none

attribute [local simp] step stepRun stepC stepC1 doSeg doFin finish evalQ guardOk evalXs evalX writeOuts leave_ret leave_end Fin.dst qop qMov qBin qUn qEqv qPick eqAny flatEq evalQs_nil evalQs_cons T.get_set nth_zero nth_succ endsR_go endsR_done endsR_fork bin kEq exitTo retTo tuple results stepRet callFn sop enter

theorem pool_ends {h : T AO} {id off k f nx : Nat} (hft : ft.get f = some dPool) (h1 : Nat.ble 1 k = true) (h2 : Nat.ble k 4096 = true) (hf0 : h.get nx = none) (hf1 : h.get (nx + 1) = none) (hf2 : h.get (nx + 2) = none) :
    Ends ft big (fun v h' nx' => v = .tup [.ptr (nx + 2) 0, .int .i64 (.ofNat 0)] ∧ nx' = nx + 3 ∧ HLe ((h.set (nx + 1) (.map [] 0 (.agg [.str, .int .i64]))).set (nx + 2) (.cells (((((T.nil.set 0 (.ptr id off)).set 2 (.mp (nx + 1))).set 3 (.int .i64 (.ofNat 0))).set 4 (.int .i64 (.ofNat 0))).set 5 (.int .i64 (.ofNat 0))) 6 false false 1)) h') (entry f dPool [.ptr id off, .int .i64 (.ofNat k)] h nx) := by
  have g1 := le_of_ble h1
  have g2 := le_of_ble h2
  have l1 : iLt (.ofNat k) 1 = false := by show Nat.blt k 1 = false; exact blt_f (by omega)
  have l2 : iLt 4096 (.ofNat k) = false := by show Nat.blt 4096 k = false; exact blt_f (by omega)
  have l3 : Nat.ble k k = true := ble_t (Nat.le_refl k)
  have l4 : Nat.ble k 1048576 = true := ble_t (by omega)
  unfold entry dPool
  rw [treeOf_two]
  apply ends_of; simp [-Int.ofNat_eq_natCast]
  apply ends_of; simp [-Int.ofNat_eq_natCast]
  apply ends_of; simp [-Int.ofNat_eq_natCast]
  apply ends_of; simp [-Int.ofNat_eq_natCast]
  apply ends_of; simp [-Int.ofNat_eq_natCast]
  simp [-Int.ofNat_eq_natCast, intBin, l1, l2]
  apply ends_of; simp [-Int.ofNat_eq_natCast]
  apply ends_of; simp [-Int.ofNat_eq_natCast]
  apply ends_of; simp [-Int.ofNat_eq_natCast]
  apply ends_of; simp [-Int.ofNat_eq_natCast, sMks, l3, l4, newObj]
  apply ends_of; simp [-Int.ofNat_eq_natCast, sMkm, newObj]
  apply ends_of; simp [-Int.ofNat_eq_natCast, qBuild, fillParts, AV.cells, sBox, newObj, allOne, AV.one]
  apply ends_of; simp [-Int.ofNat_eq_natCast]
  apply ends_of; simp [-Int.ofNat_eq_natCast]
  apply ends_of; simp [-Int.ofNat_eq_natCast, hft, dPool]
  intro i o ho
  rw [T.get_set] at ho
  rw [T.get_set]
  by_cases i2 : nx + 2 = i
  · subst i2
    rw [if_pos rfl] at ho
    cases ho
    refine ⟨_, if_pos rfl, ?_, rfl, rfl, rfl, rfl⟩
    intro j v hv
    rw [treeOf_at]
    simp only [T.get_set, T.get_nil] at hv
    rcases j with _ | _ | _ | _ | _ | _ | j <;> simp_all
  · rw [if_neg i2] at ho
    rw [if_neg (by omega)]
    rw [T.get_set] at ho
    rw [T.get_set]
    by_cases i1 : nx + 1 = i
    · rw [if_pos i1] at ho ⊢
      exact ⟨o, ho, OLe.refl o⟩
    · rw [if_neg i1] at ho ⊢
      rw [T.get_set, if_neg]
      · exact ⟨o, ho, OLe.refl o⟩
      · rintro rfl; rw [hf0] at ho; cases ho
theorem hPool_ok (hft : CodeOk P ft) (hmix : P.follows .mixedOrders = true) {f : Nat} (hdf : ft.get f = some dPool) : HOk P ft f hPool := by
  intro B w0 ρ h nx w args us v h' nx' R ha hh
  unfold hPool at hh
  split at hh
  · rename_i id off k
    split at hh
    · rename_i h1
      split at hh
      · rename_i h2
        cases hh
        have E := pool_ends (ft := ft) (big := .nil) (h := h) (id := id) (off := off) (k := k) (nx := nx) hdf h1 h2 (fresh R (Nat.le_refl _)) (fresh R (by omega)) (fresh R (by omega))
        intro cs
        obtain ⟨e, w2, fr, ⟨u, ρ', v', h2, nx2, e1, e2, e3, e4, rfl, rfl, e6⟩, e7⟩ := calls_of_ends hft (big := .nil) bigOk_nil hmix hdf R ha E cs
        exact ⟨e, w2, fr, ⟨u, ρ', e1, e2, e3, e4.sub e6 (Nat.le_refl _)⟩, e7⟩
      · cases hh
    · cases hh
  · cases hh

/-! one number after the other -/
noncomputable def allFrom (p : Nat → Bool) (n : Nat) : Nat → Bool :=
  Nat.rec (motive := fun _ => Nat → Bool) (fun _ => true) (fun _ ih a => match p a with
    | true => ih (Nat.add a 1)
    | false => false) n
theorem allFrom_spec {p : Nat → Bool} : ∀ {n a : Nat}, allFrom p n a = true → ∀ k, a ≤ k → k < a + n → p k = true
  | 0, a, _, k, h1, h2 => by omega
  | n + 1, a, h, k, h1, h2 => by
    have h' : (match p a with
      | true => allFrom p n (a + 1)
      | false => false) = true := h
    split at h'
    · rename_i hp
      by_cases e : k = a
      · rw [e]; exact hp
      · exact allFrom_spec h' k (by omega) (by omega)
    · cases h'
/-- all leaves are true -/
noncomputable def trueOf (o : LV) : Bool := Option.rec (motive := fun _ => Bool) false (fun l => allV (.bool true) l) o
theorem calls_true (hft : CodeOk P ft) (hmix : P.follows .mixedOrders = true) {big : Big} (hbig : ∀ B w0, BigOk P ft B w0 big) {f : Nat} {df : DF} (hdf : ft.get f = some df) {n : Nat} {args : List AV} {us : List Value} (ha : ∀ ρ, VRelL ρ args us)
    (hc : trueOf (leavesF ft big n (entry f df args .nil P.globals.size)) = true) {w : World} (h : P.globals.size ≤ w.heap.size) : Calls P f us.toArray w fun e w' => e = .returned (.bool true) ∧ RowKit.Below w.heap.size w w' := by
  intro cs
  rw [leavesF_eq] at hc
  cases hl : leavesOf ft big n (entry f df args .nil P.globals.size) with
  | none => rw [hl] at hc; cases hc
  | some L =>
    rw [hl] at hc
    obtain ⟨e, w2, fr, ⟨u, ρ', v', h2, nx2, e1, e2, e3, e4, e5⟩, e6⟩ := calls_of_ends hft (hbig _ _) hmix hdf (rel_start h) (ha _) (leaves_ends _ _ _ hl) cs
    have hv := allV_spec hc _ e5
    simp only at hv
    subst hv
    have : u = .bool true := e3
    subst this
    exact ⟨e, w2, fr, ⟨e1, e4.below⟩, e6⟩

section
open Go.ChangeShapes Go.WideShapes Go.RowKit
variable {H : Type} {enc : TypeId × Value → H}
/-- a law of one number that answers true, whatever the listed variables hold -/
theorem lifted_true1 {C : Checked} {os : Os} {f : FuncId} {fn : Func} {s : ChangeSpec} {t ti : TypeId} {apart fresh handsOn : Bool} {X : World → Array Value → Prop}
    (own : ownKnob C.prog.godebug = none) (started : os.Started) (noInit : C.prog.inits.idxOf? f = none) (hfn : C.prog.funcs[f]? = some fn)
    (witness : ∃ (w : World) (tape : Tape) (i : Input), w.os = os ∧ (w.forCall tape i).Shaped C.prog ∧ i.vars = [] ∧ Input.okWide C.prog (w.forCall tape i) .any w.heap.size f i ∧
      ((s.pre enc C.prog fn [] apart (w.forCall tape i).memory i.args ∧ X (w.forCall tape i).memory i.args) ∧ sizedMet enc C.prog fn (OpenSpec.ofChange s) apart (w.forCall tape i).memory i.args) ∧ ({} : Assume).holds C.prog (lone (Frame.enter C.prog f i.args .normal) [] (w.forCall tape i)))
    (hp : fn.params.toList = [ti]) (hti : C.prog.underlying ti = some (.int .i64)) (hr : fn.resultTypes.toList = [t]) (ht : C.prog.underlying t = some .bool) (hv : s.vars = []) (hs : ∀ n, s.fn H [.lit (.int .i64 n)] = { results := [.lit (.bool true)], args := [.lit (.int .i64 n)] })
    (hlt : C.prog.globals.size < (begin C.prog (fun _ _ => 0) default).world.heap.size)
    (hc : ∀ (n : Int) (w : World), C.prog.globals.size ≤ w.heap.size → Calls C.prog f #[.int .i64 n] w fun e w' => e = .returned (.bool true) ∧ Below w.heap.size w w') :
    ReturnsInHanded {} C os f .any (fun w args => (s.pre enc C.prog fn [] apart w args ∧ X w args) ∧ sizedMet enc C.prog fn (OpenSpec.ofChange s) apart w args) (s.post enc C.prog fn apart fresh handsOn false) := by
  refine returnsInHanded_of_calls own started noInit witness ?_
  intro w tape i _ hsh _ hok hpre _
  obtain ⟨_, _, _, fn', hfn', _, _, _, _, hval⟩ := hok
  obtain rfl : fn' = fn := Option.some.inj (hfn'.symm.trans hfn)
  obtain ⟨⟨⟨ds, gs, before, hw, _⟩, _⟩, _⟩ := hpre
  have hw' := DataW.Whole.of_heap (w' := w.forCall tape i) (by rfl) hw
  have hW' := hw'
  obtain ⟨p, q, hA0, hV0, rfl, hfz, hnd⟩ := hw'
  rw [hp] at hA0
  obtain ⟨v0, d0, ha, rfl, h0⟩ := trodAll_one hA0
  rw [hv] at hV0
  obtain ⟨rfl, rfl⟩ := trodVars_none hV0
  have hp0 : fn'.params[0]? = some ti := by
    have := congrArg (fun l => l[0]?) hp
    simpa using this
  obtain ⟨n, rfl, rfl, rfl, hwn⟩ := open_int hti (hval 0 ti v0 hp0 (by rw [ha]; rfl)) h0
  rw [ha] at hW' ⊢
  refine (hc n _ (size_of_shaped hsh hlt)).mono fun e W' ⟨he, hb⟩ => ?_
  subst he
  refine ChangeSpec.post_blind ⟨_, [], [], [], [], [], by simpa using hW', ?_, ?_, ?_, hb.frame _, fun h => by cases h⟩
  · have hsz : fn'.resultTypes.size = 1 := by simpa using congrArg List.length hr
    rw [hr, hsz, show s.fn H ([.lit (.int .i64 n)] ++ []) = _ from hs n]
    exact trodAll_mk1 (shut_bool ht true)
  · rw [hp, show s.fn H ([.lit (.int .i64 n)] ++ []) = _ from hs n]
    exact trodAll_mk1 (shut_int hti hwn)
  · rw [hv, show s.fn H ([.lit (.int .i64 n)] ++ []) = _ from hs n]
    rfl
end
end Go.Md
end
