import Derived.ProofKit
import Derived.LaidLaws
import Derived.LaidHandle
import Derived.LaidMore
import Derived.SevenTiedAt
import Derived.JoinedOf
import Derived.Test.YtgpdolhclinjdaaGreatDoorM14
set_option linter.unusedVariables false
set_option linter.unusedSimpArgs false
set_option linter.unusedSectionVars false
section
/- THE SAME MACHINE, written for the kernel: recursors, the state behind what is taken apart. 'stepF' is 'step'. No condition. -/
namespace Go.Md

noncomputable def evalXF : DX → T AV → List AV → Option AV :=
  DX.rec (motive := fun _ => T AV → List AV → Option AV) (fun j _ env => some (nth env j)) (fun n tm _ => tm.get n) (fun v _ _ => some v) (fun n _ _ => some (.ptr n 0)) (fun f _ _ => some (.fv f [] []))
theorem evalXF_eq (tm : T AV) (env : List AV) (x : DX) : evalXF x tm env = evalX tm env x := by cases x <;> rfl
noncomputable def consF (v : AV) (r : Option (List AV)) : Option (List AV) := Option.rec (motive := fun _ => Option (List AV)) none (fun l => some (v :: l)) r
noncomputable def evalXsF : List DX → T AV → List AV → Option (List AV) :=
  List.rec (motive := fun _ => T AV → List AV → Option (List AV)) (fun _ _ => some []) (fun x _ ih tm env => Option.rec (motive := fun _ => Option (List AV)) none (fun v => consF v (ih tm env)) (evalXF x tm env))
theorem evalXsF_eq (tm : T AV) (env : List AV) : ∀ xs : List DX, evalXsF xs tm env = evalXs tm env xs
  | [] => rfl
  | x :: r => by
    show @Option.rec _ (fun _ => Option (List AV)) none (fun v => consF v (evalXsF r tm env)) (evalXF x tm env) = evalXs tm env (x :: r)
    rw [evalXF_eq, evalXsF_eq tm env r]
    simp only [evalXs]
    cases evalX tm env x with
    | none => rfl
    | some v => cases evalXs tm env r <;> rfl

noncomputable def qopF : QK → List AV → T AO → Option AV :=
  QK.rec (motive := fun _ => List AV → T AO → Option AV) qMov qPick qBin qEqv qUn qConv qB2s qMkif qMkf qBuild qLd1 qLdn qNilc qFa qFld qIa qIap qIxs qSlc qSls qSla qLk qLens qLenl qLenm qMn qMx qExt qAdd64 qEntm
theorem qopF_eq (k : QK) : qopF k = qop k := by cases k <;> rfl
noncomputable def sopF : SK → List AV → T AO → Nat → Out :=
  SK.rec (motive := fun _ => List AV → T AO → Nat → Out) sS2b sMstr sAlloc sBox sBsl sSt sMu sDel sMkm sMks sApp sAppz sCpy sRngm
theorem sopF_eq (k : SK) : sopF k = sop k := by cases k <;> rfl

/-- a guard: none: nothing is known; some b: is it wanted -/
noncomputable def isB (w : Bool) (v : AV) : Bool := match v with
  | .bool b => Bool.rec (Bool.rec true false w) w b
  | _ => false
noncomputable def guardF : Option (DX × Bool) → T AV → List AV → Option Bool :=
  Option.rec (motive := fun _ => T AV → List AV → Option Bool) (fun _ _ => some true) (fun p tm env => Prod.rec (motive := fun _ => Option Bool) (fun x w => Option.rec (motive := fun _ => Option Bool) none (fun v => some (isB w v)) (evalXF x tm env)) p)
theorem guardF_eq (tm : T AV) (env : List AV) (g : Option (DX × Bool)) : guardF g tm env = guardOk tm env g := by
  cases g with
  | none => rfl
  | some p =>
    obtain ⟨x, w⟩ := p
    show @Option.rec _ (fun _ => Option Bool) none (fun v => some (isB w v)) (evalXF x tm env) = guardOk tm env (some (x, w))
    rw [evalXF_eq]
    simp only [guardOk]
    cases evalX tm env x with
    | none => rfl
    | some v => cases v <;> rfl
noncomputable def evalQ1 (k : QK) (xs : List DX) (tm : T AV) (env : List AV) (h : T AO) : Option AV := Option.rec (motive := fun _ => Option AV) none (fun vs => qopF k vs h) (evalXsF xs tm env)
noncomputable def evalQF : DQ → T AV → List AV → T AO → Option AV :=
  DQ.rec (motive := fun _ => T AV → List AV → T AO → Option AV) (fun g k xs tm env h => Option.rec (motive := fun _ => Option AV) (evalQ1 k xs tm env h) (fun p => Option.rec (motive := fun _ => Option AV) none (fun b => Bool.rec (motive := fun _ => Option AV) (some .undef) (evalQ1 k xs tm env h) b) (guardF (some p) tm env)) g)
theorem evalQF_eq (tm : T AV) (env : List AV) (h : T AO) (q : DQ) : evalQF q tm env h = evalQ tm env h q := by
  obtain ⟨g, k, xs⟩ := q
  have e1 : evalQ1 k xs tm env h = (match evalXs tm env xs with
      | some vs => qop k vs h
      | none => none) := by
    unfold evalQ1
    rw [evalXsF_eq, qopF_eq]
    cases evalXs tm env xs <;> rfl
  cases g with
  | none =>
    show evalQ1 k xs tm env h = _
    rw [e1]
    rfl
  | some p =>
    show @Option.rec _ (fun _ => Option AV) none (fun b => @Bool.rec (fun _ => Option AV) (some .undef) (evalQ1 k xs tm env h) b) (guardF (some p) tm env) = _
    rw [guardF_eq, e1]
    unfold evalQ
    simp only
    cases guardOk tm env (some p) with
    | none => rfl
    | some b => cases b <;> rfl
noncomputable def evalQsF : List DQ → List AV → T AV → T AO → Option (List AV) :=
  List.rec (motive := fun _ => List AV → T AV → T AO → Option (List AV)) (fun env _ _ => some env) (fun q _ ih env tm h => Option.rec (motive := fun _ => Option (List AV)) none (fun v => ih (v :: env) tm h) (evalQF q tm env h))
theorem evalQsF_eq (tm : T AV) (h : T AO) : ∀ (qs : List DQ) (env : List AV), evalQsF qs env tm h = evalQs tm h qs env
  | [], env => rfl
  | q :: r, env => by
    show @Option.rec _ (fun _ => Option (List AV)) none (fun v => evalQsF r (v :: env) tm h) (evalQF q tm env h) = _
    rw [evalQF_eq, evalQs_cons]
    cases evalQ tm env h q with
    | none => rfl
    | some v => exact evalQsF_eq tm h r (v :: env)
/-- the outs are written one behind the other, each to its end -/
noncomputable def outsF {R : Type} : List (Nat × Nat) → T AV → List AV → (T AV → R) → R :=
  List.rec (motive := fun _ => T AV → List AV → (T AV → R) → R) (fun tm _ k => k tm) (fun p _ ih tm env k => Prod.rec (motive := fun _ => R) (fun t j => T.setK tm t (nth env j) (fun tm => ih tm env k)) p)
theorem outsF_eq {R : Type} (env : List AV) (k : T AV → R) : ∀ (l : List (Nat × Nat)) (tm : T AV), outsF l tm env k = k (writeOuts tm env l)
  | [], tm => rfl
  | (t, j) :: r, tm => by
    show T.setK tm t (nth env j) (fun tm => outsF r tm env k) = _
    rw [T.setK_eq, ← T.set_eq0, outsF_eq env k r]
    rfl

/-! the end of an operation -/
noncomputable def putTo {R : Type} (d : Option Nat) (tm : T AV) (v : AV) (k : T AV → R) : R := Option.rec (motive := fun _ => R) (k tm) (fun t => T.setK tm t v k) d
theorem putTo_eq {R : Type} (d : Option Nat) (tm : T AV) (v : AV) (k : T AV → R) : putTo d tm v k = k (match d with | none => tm | some t => tm.set t v) := by
  cases d with
  | none => rfl
  | some t => show T.setK tm t v k = _; rw [T.setK_eq, ← T.set_eq0]
noncomputable def opsTo (l : List Seg) (k : List AI) : List AI := List.rec (motive := fun _ => List AI) k (fun s r _ => .ops (s :: r) :: k) l
theorem opsTo_eq (l : List Seg) (k : List AI) : opsTo l k = (match l with | [] => k | l => .ops l :: k) := by cases l <;> rfl
/-- behind a segment, at once -/
noncomputable def endSeg (d : Option Nat) (r : List Seg) (v : AV) (tm : T AV) (k : List AI) (fn : Nat) (rnd : Option Nat) (dfs : List Nat) (ret : Bool) (cs : List AF) (h : T AO) (nx : Nat) : Res :=
  putTo d tm v fun tm => .go ⟨⟨fn, tm, opsTo r k, rnd, dfs, ret⟩, cs, h, nx⟩
theorem endSeg_eq (d : Option Nat) (r : List Seg) (v : AV) (tm : T AV) (k : List AI) (fn : Nat) (rnd : Option Nat) (dfs : List Nat) (ret : Bool) (cs : List AF) (h : T AO) (nx : Nat) :
    endSeg d r v tm k fn rnd dfs ret cs h nx = (match finish ⟨fn, tm, .opsw d r :: k, rnd, dfs, ret⟩ v with
      | some fr => .go { fr, cs, h, nx }
      | none => .bad) := by
  unfold endSeg
  rw [putTo_eq, opsTo_eq]
  rfl
noncomputable def outGo (d : Option Nat) (r : List Seg) (o : Out) (tm : T AV) (k : List AI) (fn : Nat) (rnd : Option Nat) (dfs : List Nat) (ret : Bool) (cs : List AF) : Res :=
  Option.rec (motive := fun _ => Res) .bad (fun x => Prod.rec (motive := fun _ => Res) (fun v y => Prod.rec (motive := fun _ => Res) (fun h nx => endSeg d r v tm k fn rnd dfs ret cs h nx) y) x) o
noncomputable def gBool (b : Option Bool) (yes no : Res) : Res := Option.rec (motive := fun _ => Res) .bad (fun b => Bool.rec (motive := fun _ => Res) no yes b) b
noncomputable def withXs (o : Option (List AV)) (f : List AV → Res) : Res := Option.rec (motive := fun _ => Res) .bad f o

/-- the last operation of a segment; tm: behind the outs; tm0: ahead of them -/
noncomputable def finF : Fin → FT → Big → List Seg → T AV → T AV → List AV → List AI → Nat → Option Nat → List Nat → Bool → List AF → T AO → Nat → Res :=
  Fin.rec (motive := fun _ => FT → Big → List Seg → T AV → T AV → List AV → List AI → Nat → Option Nat → List Nat → Bool → List AF → T AO → Nat → Res)
    (fun _ _ r _ tm _ k fn rnd dfs ret cs h nx => endSeg none r .undef tm k fn rnd dfs ret cs h nx)
    (fun d g sk xs _ _ r tm0 tm env k fn rnd dfs ret cs h nx => gBool (guardF g tm0 env) (withXs (evalXsF xs tm0 env) fun vs => outGo d r (sopF sk vs h nx) tm k fn rnd dfs ret cs) (endSeg d r .undef tm k fn rnd dfs ret cs h nx))
    (fun d g f xs ft big r tm0 tm env k fn rnd dfs ret cs h nx => gBool (guardF g tm0 env) (withXs (evalXsF xs tm0 env) fun vs => callFn ft big ⟨fn, tm, .opsw d r :: k, rnd, dfs, ret⟩ cs h nx f vs) (endSeg d r .undef tm k fn rnd dfs ret cs h nx))
    (fun d g x xs ft big r tm0 tm env k fn rnd dfs ret cs h nx => doFin ft big tm0 env ⟨fn, tm, .opsw d r :: k, rnd, dfs, ret⟩ cs h nx (.callv d g x xs))
    (fun d x ft big r tm0 tm env k fn rnd dfs ret cs h nx => doFin ft big tm0 env ⟨fn, tm, .opsw d r :: k, rnd, dfs, ret⟩ cs h nx (.nx d x))
    (fun d q ft big r tm0 tm env k fn rnd dfs ret cs h nx => doFin ft big tm0 env ⟨fn, tm, .opsw d r :: k, rnd, dfs, ret⟩ cs h nx (.qs d q))
theorem finF_eq (f : Fin) (ft : FT) (big : Big) (r : List Seg) (tm0 tm : T AV) (env : List AV) (k : List AI) (fn : Nat) (rnd : Option Nat) (dfs : List Nat) (ret : Bool) (cs : List AF) (h : T AO) (nx : Nat) :
    finF f ft big r tm0 tm env k fn rnd dfs ret cs h nx = doFin ft big tm0 env ⟨fn, tm, .opsw f.dst r :: k, rnd, dfs, ret⟩ cs h nx f := by
  cases f with
  | nop => exact endSeg_eq none r .undef tm k fn rnd dfs ret cs h nx
  | s d g sk xs =>
    show gBool (guardF g tm0 env) (withXs (evalXsF xs tm0 env) fun vs => outGo d r (sopF sk vs h nx) tm k fn rnd dfs ret cs) (endSeg d r .undef tm k fn rnd dfs ret cs h nx) = _
    rw [guardF_eq, evalXsF_eq, sopF_eq, endSeg_eq]
    unfold doFin
    simp only [Fin.dst]
    cases guardOk tm0 env g with
    | none => rfl
    | some b =>
      cases b with
      | false => rfl
      | true =>
        show withXs (evalXs tm0 env xs) _ = _
        cases evalXs tm0 env xs with
        | none => rfl
        | some vs =>
          show outGo d r (sop sk vs h nx) tm k fn rnd dfs ret cs = _
          simp only
          cases sop sk vs h nx with
          | none => rfl
          | some x =>
            obtain ⟨v, h2, nx2⟩ := x
            exact endSeg_eq d r v tm k fn rnd dfs ret cs h2 nx2
  | call d g f xs =>
    show gBool (guardF g tm0 env) (withXs (evalXsF xs tm0 env) fun vs => callFn ft big ⟨fn, tm, .opsw d r :: k, rnd, dfs, ret⟩ cs h nx f vs) (endSeg d r .undef tm k fn rnd dfs ret cs h nx) = _
    rw [guardF_eq, evalXsF_eq, endSeg_eq]
    unfold doFin
    simp only [Fin.dst]
    cases guardOk tm0 env g with
    | none => rfl
    | some b =>
      cases b with
      | false => rfl
      | true =>
        show withXs (evalXs tm0 env xs) _ = _
        cases evalXs tm0 env xs <;> rfl
  | callv d g x xs => rfl
  | nx d x => rfl
  | qs d q => rfl

noncomputable def segF : Seg → FT → Big → List Seg → T AV → List AI → Nat → Option Nat → List Nat → Bool → List AF → T AO → Nat → Res :=
  Seg.rec (motive := fun _ => FT → Big → List Seg → T AV → List AI → Nat → Option Nat → List Nat → Bool → List AF → T AO → Nat → Res)
    (fun qs outs fin ft big r tm k fn rnd dfs ret cs h nx => Option.rec (motive := fun _ => Res) .bad (fun env => outsF outs tm env fun tm2 => finF fin ft big r tm tm2 env k fn rnd dfs ret cs h nx) (evalQsF qs [] tm h))
theorem segF_eq (sg : Seg) (ft : FT) (big : Big) (r : List Seg) (tm : T AV) (k : List AI) (fn : Nat) (td : List AI) (rnd : Option Nat) (dfs : List Nat) (ret : Bool) (cs : List AF) (h : T AO) (nx : Nat) :
    segF sg ft big r tm k fn rnd dfs ret cs h nx = doSeg ft big ⟨fn, tm, td, rnd, dfs, ret⟩ k cs h nx sg r := by
  obtain ⟨qs, outs, fin⟩ := sg
  show @Option.rec _ (fun _ => Res) .bad (fun env => outsF outs tm env fun tm2 => finF fin ft big r tm tm2 env k fn rnd dfs ret cs h nx) (evalQsF qs [] tm h) = _
  rw [evalQsF_eq]
  unfold doSeg
  simp only
  cases evalQs tm h qs [] with
  | none => rfl
  | some env =>
    show outsF outs tm env _ = _
    rw [outsF_eq, finF_eq]
noncomputable def opsF : List Seg → FT → Big → T AV → List AI → Nat → Option Nat → List Nat → Bool → List AF → T AO → Nat → Res :=
  List.rec (motive := fun _ => FT → Big → T AV → List AI → Nat → Option Nat → List Nat → Bool → List AF → T AO → Nat → Res)
    (fun _ _ tm k fn rnd dfs ret cs h nx => .go ⟨⟨fn, tm, k, rnd, dfs, ret⟩, cs, h, nx⟩)
    (fun sg r _ ft big tm k fn rnd dfs ret cs h nx => segF sg ft big r tm k fn rnd dfs ret cs h nx)

noncomputable def condF (o : Option AV) (a b : DC) (tm : T AV) (k : List AI) (fn : Nat) (rnd : Option Nat) (dfs : List Nat) (ret : Bool) (cs : List AF) (h : T AO) (nx : Nat) : Res := match o with
  | some (.bool t) => .go ⟨⟨fn, tm, .c (Bool.rec (motive := fun _ => DC) b a t) :: k, rnd, dfs, ret⟩, cs, h, nx⟩
  | _ => .bad
abbrev KF := FT → Big → T AV → List AI → Nat → Option Nat → List Nat → Bool → List AI → List AF → T AO → Nat → Res
noncomputable def c1F : DC → KF :=
  DC.rec (motive := fun _ => KF)
    (fun _ _ tm k fn rnd dfs ret _ cs h nx => .go ⟨⟨fn, tm, k, rnd, dfs, ret⟩, cs, h, nx⟩)
    (fun a b _ _ _ _ tm k fn rnd dfs ret _ cs h nx => .go ⟨⟨fn, tm, .c a :: .c b :: k, rnd, dfs, ret⟩, cs, h, nx⟩)
    (fun x a b _ _ _ _ tm k fn rnd dfs ret _ cs h nx => condF (evalXF x tm []) a b tm k fn rnd dfs ret cs h nx)
    (fun id a _ _ _ tm k fn rnd dfs ret _ cs h nx => .go ⟨⟨fn, tm, .c a :: .blk id :: k, rnd, dfs, ret⟩, cs, h, nx⟩)
    (fun a _ _ _ tm k fn rnd dfs ret _ cs h nx => .go ⟨⟨fn, tm, .c a :: .lp a :: k, rnd, dfs, ret⟩, cs, h, nx⟩)
    (fun a _ _ _ tm k fn rnd dfs ret _ cs h nx => .go ⟨⟨fn, tm, .c a :: .scp a :: k, rnd, dfs, ret⟩, cs, h, nx⟩)
    (fun _ _ _ tm k fn rnd dfs ret _ cs h nx => .go ⟨⟨fn, tm, k, rnd, dfs, ret⟩, cs, h, nx⟩)
    (fun l ft big tm k fn rnd dfs ret td cs h nx => stepC1 ft big ⟨fn, tm, td, rnd, dfs, ret⟩ cs h nx k (.goto l))
    (fun id ft big tm k fn rnd dfs ret td cs h nx => stepC1 ft big ⟨fn, tm, td, rnd, dfs, ret⟩ cs h nx k (.exit id))
    (fun _ _ tm _ fn rnd dfs ret td cs h nx => leave ⟨fn, tm, td, rnd, dfs, ret⟩ cs h nx (some .ret))
    (fun l ft big tm k fn rnd dfs ret _ cs h nx => opsF l ft big tm k fn rnd dfs ret cs h nx)
    (fun l _ _ tm k fn rnd dfs ret _ cs h nx => .go ⟨⟨fn, tm, .dr l :: k, rnd, dfs, ret⟩, cs, h, nx⟩)
    (fun t ft big tm k fn rnd dfs ret td cs h nx => stepC1 ft big ⟨fn, tm, td, rnd, dfs, ret⟩ cs h nx k (.drt t))
    (fun f ps asg body _ _ ft big tm k fn rnd dfs ret td cs h nx => stepC1 ft big ⟨fn, tm, td, rnd, dfs, ret⟩ cs h nx k (.rf f ps asg body))
    (fun _ _ _ _ _ _ _ _ _ _ _ _ => .bad)
theorem c1F_eq (c : DC) (ft : FT) (big : Big) (tm : T AV) (k : List AI) (fn : Nat) (rnd : Option Nat) (dfs : List Nat) (ret : Bool) (td : List AI) (cs : List AF) (h : T AO) (nx : Nat) :
    c1F c ft big tm k fn rnd dfs ret td cs h nx = stepC1 ft big ⟨fn, tm, td, rnd, dfs, ret⟩ cs h nx k c := by
  cases c with
  | cond x a b =>
    show condF (evalXF x tm []) a b tm k fn rnd dfs ret cs h nx = _
    rw [evalXF_eq]
    simp only [stepC1, condF]
    cases evalX tm [] x with
    | none => rfl
    | some v =>
      cases v with
      | bool t => cases t <;> rfl
      | _ => rfl
  | ops l =>
    cases l with
    | nil => rfl
    | cons sg r => exact segF_eq sg ft big r tm k fn td rnd dfs ret cs h nx
  | _ => rfl
noncomputable def cF : DC → KF :=
  DC.rec (motive := fun _ => KF)
    (c1F .skip) (fun a b _ _ ft big tm k fn rnd dfs ret td cs h nx => c1F a ft big tm (.c b :: k) fn rnd dfs ret td cs h nx) (fun x a b _ _ => c1F (.cond x a b)) (fun id a _ => c1F (.block id a)) (fun a _ => c1F (.loop a)) (fun a _ => c1F (.scope a)) (fun l => c1F (.label l)) (fun l => c1F (.goto l)) (fun id => c1F (.exit id)) (c1F .ret) (fun l => c1F (.ops l)) (fun l => c1F (.dr l)) (fun t => c1F (.drt t)) (fun f ps a b _ _ => c1F (.rf f ps a b)) (c1F .bad)
theorem cF_eq (c : DC) (ft : FT) (big : Big) (tm : T AV) (k : List AI) (fn : Nat) (rnd : Option Nat) (dfs : List Nat) (ret : Bool) (td : List AI) (cs : List AF) (h : T AO) (nx : Nat) :
    cF c ft big tm k fn rnd dfs ret td cs h nx = stepC ft big ⟨fn, tm, td, rnd, dfs, ret⟩ cs h nx k c := by
  cases c with
  | seq a b => exact c1F_eq a ft big tm (.c b :: k) fn rnd dfs ret td cs h nx
  | skip => exact c1F_eq .skip ft big tm k fn rnd dfs ret td cs h nx
  | cond x a b => exact c1F_eq (.cond x a b) ft big tm k fn rnd dfs ret td cs h nx
  | block id a => exact c1F_eq (.block id a) ft big tm k fn rnd dfs ret td cs h nx
  | loop a => exact c1F_eq (.loop a) ft big tm k fn rnd dfs ret td cs h nx
  | scope a => exact c1F_eq (.scope a) ft big tm k fn rnd dfs ret td cs h nx
  | label l => exact c1F_eq (.label l) ft big tm k fn rnd dfs ret td cs h nx
  | goto l => exact c1F_eq (.goto l) ft big tm k fn rnd dfs ret td cs h nx
  | exit id => exact c1F_eq (.exit id) ft big tm k fn rnd dfs ret td cs h nx
  | ret => exact c1F_eq .ret ft big tm k fn rnd dfs ret td cs h nx
  | ops l => exact c1F_eq (.ops l) ft big tm k fn rnd dfs ret td cs h nx
  | dr l => exact c1F_eq (.dr l) ft big tm k fn rnd dfs ret td cs h nx
  | drt t => exact c1F_eq (.drt t) ft big tm k fn rnd dfs ret td cs h nx
  | rf f ps a b => exact c1F_eq (.rf f ps a b) ft big tm k fn rnd dfs ret td cs h nx
  | bad => exact c1F_eq .bad ft big tm k fn rnd dfs ret td cs h nx

/-- an operation of a region that draws: a quiet one -/
noncomputable def drqF (o : Option AV) (d : Nat) (r : List DI) (tm : T AV) (k : List AI) (fn : Nat) (rnd : Option Nat) (dfs : List Nat) (ret : Bool) (cs : List AF) (h : T AO) (nx : Nat) : Res :=
  Option.rec (motive := fun _ => Res) .bad (fun v => T.setK tm d v fun tm => .go ⟨⟨fn, tm, .dr r :: k, rnd, dfs, ret⟩, cs, h, nx⟩) o
noncomputable def diF : DI → List DI → KF :=
  DI.rec (motive := fun _ => List DI → KF)
    (fun _ d q r _ _ tm k fn rnd dfs ret _ cs h nx => drqF (evalQF q tm [] h) d r tm k fn rnd dfs ret cs h nx)
    (fun i f re r ft big tm k fn rnd dfs ret td cs h nx => stepDr ft big ⟨fn, tm, td, rnd, dfs, ret⟩ cs h nx k (.s i f re :: r))
noncomputable def drF : List DI → KF :=
  List.rec (motive := fun _ => KF) (fun _ _ tm k fn rnd dfs ret _ cs h nx => .go ⟨⟨fn, tm, k, rnd, dfs, ret⟩, cs, h, nx⟩) (fun i r _ => diF i r)
theorem drF_eq (l : List DI) (ft : FT) (big : Big) (tm : T AV) (k : List AI) (fn : Nat) (rnd : Option Nat) (dfs : List Nat) (ret : Bool) (td : List AI) (cs : List AF) (h : T AO) (nx : Nat) :
    drF l ft big tm k fn rnd dfs ret td cs h nx = stepDr ft big ⟨fn, tm, td, rnd, dfs, ret⟩ cs h nx k l := by
  cases l with
  | nil => rfl
  | cons i r =>
    cases i with
    | q i d q =>
      show drqF (evalQF q tm [] h) d r tm k fn rnd dfs ret cs h nx = _
      rw [evalQF_eq]
      simp only [stepDr, drqF]
      cases evalQ tm [] h q with
      | none => rfl
      | some v =>
        show T.setK tm d v _ = _
        rw [T.setK_eq, ← T.set_eq0]
    | s i f re => rfl

noncomputable def iF : AI → KF :=
  AI.rec (motive := fun _ => KF)
    cF
    (fun _ _ _ tm k fn rnd dfs ret _ cs h nx => .go ⟨⟨fn, tm, k, rnd, dfs, ret⟩, cs, h, nx⟩)
    (fun body _ _ tm k fn rnd dfs ret _ cs h nx => .go ⟨⟨fn, tm, .c body :: .lp body :: k, rnd, dfs, ret⟩, cs, h, nx⟩)
    (fun _ _ _ tm k fn rnd dfs ret _ cs h nx => .go ⟨⟨fn, tm, k, rnd, dfs, ret⟩, cs, h, nx⟩)
    (fun l ft big tm k fn rnd dfs ret _ cs h nx => opsF l ft big tm k fn rnd dfs ret cs h nx)
    (fun _ _ _ _ _ _ _ _ _ _ _ _ _ _ => .bad)
    (fun l => drF l)
    (fun _ _ _ _ _ _ _ _ _ _ _ _ _ _ _ => .bad)
    (fun re l ft big tm k fn rnd dfs ret td cs h nx => stepRun ft big ⟨fn, tm, td, rnd, dfs, ret⟩ cs h nx (.drr re l :: k))
    (fun _ _ _ _ _ _ _ _ _ _ _ _ _ => .bad)
    (fun l ft big tm k fn rnd dfs ret td cs h nx => stepRun ft big ⟨fn, tm, td, rnd, dfs, ret⟩ cs h nx (.endrf l :: k))
    (fun ft big tm k fn rnd dfs ret td cs h nx => stepRun ft big ⟨fn, tm, td, rnd, dfs, ret⟩ cs h nx (.br :: k))
noncomputable def runF1 : List AI → FT → Big → T AV → Nat → Option Nat → List Nat → List AI → List AF → T AO → Nat → Res :=
  List.rec (motive := fun _ => FT → Big → T AV → Nat → Option Nat → List Nat → List AI → List AF → T AO → Nat → Res)
    (fun _ _ tm fn rnd dfs td cs h nx => leave ⟨fn, tm, td, rnd, dfs, false⟩ cs h nx none)
    (fun i k _ ft big tm fn rnd dfs td cs h nx => iF i ft big tm k fn rnd dfs false td cs h nx)
theorem runF1_eq (todo : List AI) (ft : FT) (big : Big) (tm : T AV) (fn : Nat) (rnd : Option Nat) (dfs : List Nat) (td : List AI) (cs : List AF) (h : T AO) (nx : Nat) :
    runF1 todo ft big tm fn rnd dfs td cs h nx = stepRun ft big ⟨fn, tm, td, rnd, dfs, false⟩ cs h nx todo := by
  cases todo with
  | nil => rfl
  | cons i k =>
    cases i with
    | c c => exact cF_eq c ft big tm k fn rnd dfs false td cs h nx
    | ops l =>
      cases l with
      | nil => rfl
      | cons sg r => exact segF_eq sg ft big r tm k fn td rnd dfs false cs h nx
    | dr l => exact drF_eq l ft big tm k fn rnd dfs false td cs h nx
    | _ => rfl
noncomputable def stepF (ft : FT) (big : Big) (s : St) : Res :=
  St.rec (motive := fun _ => Res) (fun fr cs h nx => AF.rec (motive := fun _ => Res) (fun fn tm todo rnd dfs ret => Bool.rec (motive := fun _ => Res) (runF1 todo ft big tm fn rnd dfs todo cs h nx) (stepRet ft ⟨fn, tm, todo, rnd, dfs, true⟩ cs h nx) ret) fr) s
theorem stepF_eq (ft : FT) (big : Big) (s : St) : stepF ft big s = step ft big s := by
  obtain ⟨⟨fn, tm, todo, rnd, dfs, ret⟩, cs, h, nx⟩ := s
  cases ret with
  | true => rfl
  | false => exact runF1_eq todo ft big tm fn rnd dfs todo cs h nx

abbrev LV := Option (List (AV × T AO × Nat))
noncomputable def appL (a b : LV) : LV := Option.rec (motive := fun _ => LV) none (fun x => Option.rec (motive := fun _ => LV) none (fun y => some (x ++ y)) b) a
noncomputable def resF (ih : St → LV) (r : Res) : LV :=
  Res.rec (motive := fun _ => LV) ih (fun l => List.rec (motive := fun _ => LV) (some []) (fun s _ r => appL (ih s) r) l) (fun v h nx => some [(v, h, nx)]) none r
noncomputable def leavesF (ft : FT) (big : Big) (n : Nat) : St → LV :=
  Nat.rec (motive := fun _ => St → LV) (fun _ => none) (fun _ ih s => resF ih (stepF ft big s)) n
theorem leavesF_eq (ft : FT) (big : Big) : ∀ (n : Nat) (s : St), leavesF ft big n s = leavesOf ft big n s
  | 0, s => rfl
  | n + 1, s => by
    have ih : leavesF ft big n = leavesOf ft big n := funext (leavesF_eq ft big n)
    show resF (leavesF ft big n) (stepF ft big s) = _
    rw [ih, stepF_eq]
    show _ = (match step ft big s with
      | .go s => leavesOf ft big n s
      | .fork l => List.rec (motive := fun _ => Option (List (AV × T AO × Nat))) (some []) (fun s _ r => match leavesOf ft big n s with
        | some a => (match r with
          | some b => some (a ++ b)
          | none => none)
        | none => none) l
      | .done v h nx => some [(v, h, nx)]
      | .bad => none)
    cases step ft big s with
    | go s => rfl
    | done v h nx => rfl
    | bad => rfl
    | fork l =>
      show @List.rec _ (fun _ => LV) (some []) (fun s _ r => appL (leavesOf ft big n s) r) l = _
      induction l with
      | nil => rfl
      | cons s r ihl =>
        show appL (leavesOf ft big n s) (@List.rec _ (fun _ => LV) (some []) (fun s _ r => appL (leavesOf ft big n s) r) r) = _
        rw [ihl]
        simp only
        generalize leavesOf ft big n s = a
        cases a with
        | none => rfl
        | some a =>
          show @Option.rec _ (fun _ => LV) none (fun y => some (a ++ y)) _ = (match (_ : LV) with
            | some b => some (a ++ b)
            | none => none)
          generalize (@List.rec St (fun _ => Option (List (AV × T AO × Nat))) _ _ r) = b
          cases b <;> rfl
theorem memo_okF {P : Program} {ft : FT} (hft : CodeOk P ft) (hmix : P.follows .mixedOrders = true) {big : Big} (hbig : ∀ B w0, BigOk P ft B w0 big) {f : Nat} {df : DF} (hdf : ft.get f = some df) {n : Nat} {m : Memo} (hc : chkLeaves m (leavesF ft big n (entry f df m.args m.hin m.nin)) = true) : MemoOk P ft f m := memo_ok hft hmix hbig hdf (n := n) (by rw [← leavesF_eq]; exact hc)
end Go.Md
end
section
/- NAMES OF OBJECTS MAY BE SWAPPED: what one order calls 4266 another calls 4267. No condition. -/
namespace Go.Md
variable {P : Program} {ft : FT} {B : Nat} {w0 w w' : World}

noncomputable def swN (a b i : Nat) : Nat := match Nat.beq i a with
  | true => b
  | false => (match Nat.beq i b with
    | true => a
    | false => i)
theorem swN_def (a b i : Nat) : swN a b i = if i = a then b else if i = b then a else i := by
  unfold swN
  by_cases h : i = a
  · subst h; simp
  · have : Nat.beq i a = false := by cases e : Nat.beq i a with | false => rfl | true => exact absurd (Nat.eq_of_beq_eq_true e) h
    rw [this]
    simp only [if_neg h]
    by_cases h2 : i = b
    · subst h2; simp
    · have : Nat.beq i b = false := by cases e : Nat.beq i b with | false => rfl | true => exact absurd (Nat.eq_of_beq_eq_true e) h2
      rw [this]; simp [h2]
theorem swN_swN (a b i : Nat) : swN a b (swN a b i) = i := by
  rw [swN_def, swN_def]
  split
  · split <;> rename_i h1 <;> simp_all
  · split
    · simp_all
    · simp_all
theorem swN_lt {a b i n : Nat} (ha : n ≤ a) (hb : n ≤ b) (hi : i < n) : swN a b i = i := by
  rw [swN_def, if_neg (by omega), if_neg (by omega)]
mutual
noncomputable def AV.sw (a b : Nat) : AV → AV
  | .undef => .undef
  | .bool x => .bool x
  | .int k n => .int k n
  | .str x n => .str x n
  | .pnil => .pnil
  | .ptr id off => .ptr (swN a b id) off
  | .snil => .snil
  | .sle => .sle
  | .sl id off n c => .sl (swN a b id) off n c
  | .mnil => .mnil
  | .mp id => .mp (swN a b id)
  | .fv f x y => .fv f (AV.swL a b x) (AV.swL a b y)
  | .fy id => .fy (swN a b id)
  | .fnil => .fnil
  | .inil => .inil
  | .ifc t x => .ifc t (AV.sw a b x)
  | .agg l => .agg (AV.swL a b l)
  | .tup l => .tup (AV.swL a b l)
noncomputable def AV.swL (a b : Nat) : List AV → List AV
  | [] => []
  | x :: r => AV.sw a b x :: AV.swL a b r
end
noncomputable def rsw (ρ : Rho) (a b : Nat) : Rho := fun i => ρ (swN a b i)
theorem rsw_sw {ρ : Rho} {a b i : Nat} {g : Gh} (h : ρ i = some g) : rsw ρ a b (swN a b i) = some g := by unfold rsw; rw [swN_swN]; exact h
mutual
theorem VRel.sw {ρ : Rho} (a b : Nat) : ∀ (x : AV) (v : Value), VRel ρ x v → VRel (rsw ρ a b) (x.sw a b) v
  | .undef, _, e => e
  | .bool _, _, e => e
  | .int _ _, _, e => e
  | .str _ _, _, e => e
  | .pnil, _, e => e
  | .ptr id off, v, ⟨g, hg, e⟩ => ⟨g, rsw_sw hg, e⟩
  | .snil, _, e => e
  | .sle, _, e => e
  | .sl id off len cap, v, ⟨g, c, hg, e⟩ => ⟨g, c, rsw_sw hg, e⟩
  | .mnil, _, e => e
  | .mp id, v, ⟨g, hg, e⟩ => ⟨g, rsw_sw hg, e⟩
  | .fv fn first cap, v, ⟨x, y, e, h1, h2⟩ => ⟨x, y, e, VRelL.sw a b first x h1, VRelL.sw a b cap y h2⟩
  | .fy id, v, ⟨g, hg, e⟩ => ⟨g, rsw_sw hg, e⟩
  | .fnil, _, e => e
  | .inil, _, e => e
  | .ifc t x, v, ⟨y, e, h1⟩ => ⟨y, e, VRel.sw a b x y h1⟩
  | .agg l, v, ⟨y, e, h1⟩ => ⟨y, e, VRelL.sw a b l y h1⟩
  | .tup l, v, ⟨y, e, h1⟩ => ⟨y, e, VRelL.sw a b l y h1⟩
theorem VRelL.sw {ρ : Rho} (a b : Nat) : ∀ (l : List AV) (s : List Value), VRelL ρ l s → VRelL (rsw ρ a b) (AV.swL a b l) s
  | [], _, e => e
  | x :: r, _, ⟨y, s, e, h1, h2⟩ => ⟨y, s, e, VRel.sw a b x y h1, VRelL.sw a b r s h2⟩
end

noncomputable def mapO {α β : Type} (f : α → Option β) (t : T α) : T β :=
  T.rec (motive := fun _ => T β) .nil (fun _ v _ il ir => .node il (Option.rec none f v) ir) t
theorem mapO_get {α β : Type} (f : α → Option β) : ∀ (t : T α) (i : Nat), (mapO f t).get i = (t.get i).bind f
  | .nil, i => rfl
  | .node l v r, i => by
    show (T.node (mapO f l) (@Option.rec _ (fun _ => Option β) none f v) (mapO f r)).get i = _
    rw [T.get_node, T.get_node]
    split
    · cases v <;> rfl
    · split
      · exact mapO_get f l _
      · exact mapO_get f r _
/-- the entries of a map; the keys name nothing that moves -/
noncomputable def esSw (a b : Nat) (es : List (AV × AV × Nat)) : Option (List (AV × AV × Nat)) :=
  List.rec (motive := fun _ => Option (List (AV × AV × Nat))) (some []) (fun x _ ih => match AV.beq (AV.sw a b x.1) x.1 with
    | true => (match ih with
      | some r => some ((x.1, AV.sw a b x.2.1, x.2.2) :: r)
      | none => none)
    | false => none) es
noncomputable def AO.sw (a b : Nat) : AO → Option AO
  | .cells l n ro opn e => some (.cells (mapO (fun v => some (AV.sw a b v)) l) n ro opn e)
  | .bytes x n opn => some (.bytes x n opn)
  | .map es c sh => match esSw a b es with
    | some es => some (.map es c sh)
    | none => none
  | .dfr => some .dfr
  | .loop .. => none
  | .miter m s l c => some (.miter (Option.rec none (fun i => some (swN a b i)) m) s l c)
theorem esSw_spec {ρ : Rho} (a b : Nat) : ∀ (es : List (AV × AV × Nat)) {es'} (l : List MapEntry), esSw a b es = some es' → ERelL ρ es l →
    ERelL (rsw ρ a b) es' l ∧ es'.map (·.1) = es.map (·.1) ∧ es'.map (·.2.2) = es.map (·.2.2)
  | [], es', l, h, H => by cases h; exact ⟨H, rfl, rfl⟩
  | x :: r, es', l, h, ⟨e, s, he, ⟨h1, h2, h3⟩, H⟩ => by
    have h' : (match AV.beq (AV.sw a b x.1) x.1 with
      | true => (match esSw a b r with
        | some r => some ((x.1, AV.sw a b x.2.1, x.2.2) :: r)
        | none => none)
      | false => none) = some es' := h
    split at h'
    · rename_i hk
      split at h'
      · rename_i r' hr
        cases h'
        obtain ⟨i1, i2, i3⟩ := esSw_spec a b r s hr H
        have e1 := (AV.beq_iff _ _).1 hk
        refine ⟨⟨e, s, he, ⟨?_, VRel.sw a b _ _ h2, h3⟩, i1⟩, by simp [i2], by simp [i3]⟩
        have := VRel.sw a b _ _ h1
        rw [e1] at this
        exact this
      · cases h'
    · cases h'
theorem ORel.sw {ρ : Rho} {w : World} {g : Gh} (a b : Nat) : ∀ {o o' : AO}, AO.sw a b o = some o' → ORel P ft ρ w g o → ORel P ft (rsw ρ a b) w g o' ∧ isRo o' = isRo o
  | .cells l n ro opn e, o', h, H => by
    cases h
    obtain ⟨arr, el, fz, h1, h2, h3, h4, h5, h6⟩ := H
    refine ⟨⟨arr, el, fz, h1, h2, h3, h4, h5, fun j v hj hv => ?_⟩, rfl⟩
    rw [mapO_get] at hv
    cases hl : l.get j with
    | none => rw [hl] at hv; cases hv
    | some x =>
      rw [hl] at hv
      cases hv
      obtain ⟨u, h7, h8⟩ := h6 j x hj hl
      exact ⟨u, h7, VRel.sw a b _ _ h8⟩
  | .bytes x n opn, o', h, H => by cases h; exact ⟨H, rfl⟩
  | .map es c sh, o', h, H => by
    have h' : (match esSw a b es with
      | some es => some (AO.map es c sh)
      | none => none) = some o' := h
    split at h'
    · rename_i es' he
      cases h'
      obtain ⟨ents, l, h1, h2, h3, h4, h5, h6, h7⟩ := H
      obtain ⟨i1, i2, i3⟩ := esSw_spec a b es l he h3
      refine ⟨⟨ents, l, h1, h2, i1, by rw [i2]; exact h4, by rw [i3]; exact h5, fun x hx => ?_, fun x hx => ?_⟩, rfl⟩
      · have : x.2.2 ∈ es'.map (·.2.2) := List.mem_map.2 ⟨x, hx, rfl⟩
        rw [i3] at this
        obtain ⟨y, hy, e⟩ := List.mem_map.1 this
        rw [← e]; exact h6 y hy
      · have : x.1 ∈ es'.map (·.1) := List.mem_map.2 ⟨x, hx, rfl⟩
        rw [i2] at this
        obtain ⟨y, hy, e⟩ := List.mem_map.1 this
        rw [← e]; exact h7 y hy
    · cases h'
  | .dfr, o', h, H => by cases h; exact ⟨H, rfl⟩
  | .loop .., o', h, H => by cases h
  | .miter m s l c, o', h, H => by
    cases h
    obtain ⟨h0, m', h1, h2⟩ := H
    refine ⟨⟨h0, m', h1, ?_⟩, rfl⟩
    cases m with
    | none => exact h2
    | some i =>
      obtain ⟨gm, h3, h4⟩ := h2
      exact ⟨gm, rsw_sw h3, h4⟩

noncomputable def swapT {α : Type} (a b : Nat) (t : T α) : T α :=
  match t.get a with
  | none => (match t.get b with
    | none => t
    | some y => (t.del b).set a y)
  | some x => (match t.get b with
    | none => (t.del a).set b x
    | some y => (t.set a y).set b x)
theorem swapT_get {α : Type} (a b : Nat) (t : T α) (i : Nat) : (swapT a b t).get i = t.get (swN a b i) := by
  unfold swapT
  rw [swN_def]
  cases ha : t.get a <;> cases hb : t.get b <;> simp only [T.get_set, T.get_del]
  all_goals
    by_cases h1 : i = a
    · subst h1
      by_cases h2 : i = b
      · subst h2; simp_all
      · have h3 : ¬ b = i := fun e => h2 e.symm
        simp_all
    · by_cases h2 : i = b
      · subst h2
        have h3 : ¬ a = i := fun e => h1 e.symm
        simp_all
      · have h3 : ¬ a = i := fun e => h1 e.symm
        have h4 : ¬ b = i := fun e => h2 e.symm
        simp_all
noncomputable def hSw (a b : Nat) (h : T AO) : T AO := swapT a b (mapO (AO.sw a b) h)
theorem hSw_get (a b : Nat) (h : T AO) (i : Nat) : (hSw a b h).get i = (h.get (swN a b i)).bind (AO.sw a b) := by
  unfold hSw
  rw [swapT_get, mapO_get]
theorem Rel.sw {ρ : Rho} {h : T AO} {nx a b n : Nat} (R : Rel P ft B w0 ρ h nx w) (ha : n ≤ a) (hb : n ≤ b) (hG : P.globals.size ≤ n) (ha' : a < nx) (hb' : b < nx) : Rel P ft B w0 (rsw ρ a b) (hSw a b h) nx w := by
  refine ⟨fun id o hg => ?_, fun i j oi oj gi gj hi hj ei ej hb => ?_, fun id g hg => ?_, fun i hi => ?_, R.base, R.below⟩
  · rw [hSw_get] at hg
    cases ho : h.get (swN a b id) with
    | none => rw [ho] at hg; cases hg
    | some o1 =>
      rw [ho] at hg
      obtain ⟨g, h1, h2, h3⟩ := R.obj _ _ ho
      have h4 := ORel.sw a b hg h2
      exact ⟨g, h1, h4.1, by rw [h4.2]; exact h3⟩
  · rw [hSw_get] at hi hj
    cases h1 : h.get (swN a b i) with
    | none => rw [h1] at hi; cases hi
    | some o1 =>
      cases h2 : h.get (swN a b j) with
      | none => rw [h2] at hj; cases hj
      | some o2 =>
        have := R.inj _ _ _ _ _ _ h1 h2 ei ej hb
        rw [← swN_swN a b i, this, swN_swN]
  · have := R.dom _ _ hg
    refine ⟨?_, this.2⟩
    have h1 := this.1
    rw [swN_def] at h1
    split at h1
    · omega
    · split at h1
      · omega
      · exact h1
  · show ∃ g, ρ (swN a b i) = some g ∧ _
    rw [swN_lt ha hb (by omega)]
    exact R.glob i hi

/-- a leaf under swaps -/
noncomputable def swLeaf (l : List (Nat × Nat)) (x : AV × T AO × Nat) : AV × T AO × Nat :=
  List.rec (motive := fun _ => AV × T AO × Nat → AV × T AO × Nat) (fun x => x) (fun p _ ih x => ih (AV.sw p.1 p.2 x.1, hSw p.1 p.2 x.2.1, x.2.2)) l x
noncomputable def swOk (n nx : Nat) (l : List (Nat × Nat)) : Bool :=
  List.rec (motive := fun _ => Bool) true (fun p _ ih => match Nat.ble n p.1 with
    | true => (match Nat.ble n p.2 with
      | true => (match Nat.blt p.1 nx with
        | true => (match Nat.blt p.2 nx with
          | true => ih
          | false => false)
        | false => false)
      | false => false)
    | false => false) l
noncomputable def chkLeafS (alts : List (List (Nat × Nat))) (m : Memo) (x : AV × T AO × Nat) : Bool :=
  List.rec (motive := fun _ => Bool) (chkLeaf m x) (fun l _ ih => match swOk m.nin x.2.2 l with
    | true => (match chkLeaf m (swLeaf l x) with
      | true => true
      | false => ih)
    | false => ih) alts
noncomputable def chkLeavesS (alts : List (List (Nat × Nat))) (m : Memo) (o : Option (List (AV × T AO × Nat))) : Bool :=
  Option.rec (motive := fun _ => Bool) false (fun l => List.rec (motive := fun _ => Bool) true (fun x _ ih => match chkLeafS alts m x with
    | true => ih
    | false => false) l) o
theorem chkLeavesS_spec {alts} {m : Memo} {o : Option (List (AV × T AO × Nat))} (h : chkLeavesS alts m o = true) : ∃ L, o = some L ∧ ∀ x ∈ L, chkLeafS alts m x = true := by
  cases o with
  | none => cases h
  | some L =>
    refine ⟨L, rfl, ?_⟩
    induction L with
    | nil => intro x hx; cases hx
    | cons y r ih =>
      have h' : (match chkLeafS alts m y with
        | true => chkLeavesS alts m (some r)
        | false => false) = true := h
      split at h'
      · rename_i hy
        intro x hx
        rcases List.mem_cons.1 hx with rfl | hx
        · exact hy
        · exact ih h' x hx
      · cases h'
theorem chkLeafS_spec {m : Memo} {x : AV × T AO × Nat} : ∀ {alts : List (List (Nat × Nat))}, chkLeafS alts m x = true → ∃ l, swOk m.nin x.2.2 l = true ∧ chkLeaf m (swLeaf l x) = true
  | [], h => ⟨[], rfl, h⟩
  | l :: r, h => by
    have h' : (match swOk m.nin x.2.2 l with
      | true => (match chkLeaf m (swLeaf l x) with
        | true => true
        | false => chkLeafS r m x)
      | false => chkLeafS r m x) = true := h
    split at h'
    · rename_i h1
      split at h'
      · rename_i h2; exact ⟨l, h1, h2⟩
      · exact chkLeafS_spec h'
    · exact chkLeafS_spec h'
theorem swLeaf_ok {n : Nat} (hG : P.globals.size ≤ n) {u : Value} : ∀ {l : List (Nat × Nat)} {v : AV} {h : T AO} {nx : Nat} {ρ : Rho}, swOk n nx l = true → VRel ρ v u → Rel P ft B w0 ρ h nx w →
    ∃ ρ', (∀ i < n, ρ' i = ρ i) ∧ VRel ρ' (swLeaf l (v, h, nx)).1 u ∧ Rel P ft B w0 ρ' (swLeaf l (v, h, nx)).2.1 (swLeaf l (v, h, nx)).2.2 w
  | [], v, h, nx, ρ, _, hv, R => ⟨ρ, fun _ _ => rfl, hv, R⟩
  | (a, b) :: l, v, h, nx, ρ, hk, hv, R => by
    have hk' : (match Nat.ble n a with
    | true => (match Nat.ble n b with
      | true => (match Nat.blt a nx with
        | true => (match Nat.blt b nx with
          | true => swOk n nx l
          | false => false)
        | false => false)
      | false => false)
    | false => false) = true := hk
    split at hk'
    · rename_i h1
      split at hk'
      · rename_i h2
        split at hk'
        · rename_i h3
          split at hk'
          · rename_i h4
            have h1 := le_of_ble h1
            have h2 := le_of_ble h2
            have h3 : a < nx := le_of_ble h3
            have h4 : b < nx := le_of_ble h4
            obtain ⟨ρ', i1, i2, i3⟩ := swLeaf_ok hG hk' (VRel.sw a b _ _ hv) (R.sw h1 h2 hG h3 h4)
            refine ⟨ρ', fun i hi => ?_, i2, i3⟩
            rw [i1 i hi]
            show ρ (swN a b i) = ρ i
            rw [swN_lt h1 h2 hi]
          · cases hk'
        · cases hk'
      · cases hk'
    · cases hk'
theorem memo_okS (alts : List (List (Nat × Nat))) (hft : CodeOk P ft) (hmix : P.follows .mixedOrders = true) {big : Big} (hbig : ∀ B w0, BigOk P ft B w0 big) {f : Nat} {df : DF} (hdf : ft.get f = some df) {n : Nat} {m : Memo} (hG : P.globals.size ≤ m.nin) (hc : chkLeavesS alts m (leavesF ft big n (entry f df m.args m.hin m.nin)) = true) : MemoOk P ft f m := by
  intro B w0 ρ w us R ha cs
  rw [leavesF_eq] at hc
  obtain ⟨L, hL, hall⟩ := chkLeavesS_spec hc
  obtain ⟨e, w2, fr, ⟨u, ρ', v, h2, nx2, rfl, c1, c2, c3, c4⟩, c5⟩ := calls_of_ends hft (hbig B w0) hmix hdf R ha (leaves_ends _ _ _ hL) cs
  obtain ⟨l, hok, hx⟩ := chkLeafS_spec (hall _ c4)
  obtain ⟨ρ'', i1, i2, i3⟩ := swLeaf_ok hG hok c2 c3
  unfold chkLeaf at hx
  split at hx
  · rename_i hb
    split at hx
    · rename_i hn
      have e1 := (AV.beq_iff _ _).1 hb
      refine ⟨.returned u, w2, fr, ⟨u, ρ'', rfl, fun i g hi => ?_, by rw [← e1]; exact i2, i3.sub (hLe_spec hx) (le_of_ble hn)⟩, c5⟩
      rw [i1 i (R.dom i g hi).1]
      exact c1 i g hi
    · cases hx
  · cases hx
end Go.Md
end
section
/- THE LAST STEP: a run from nothing to 'true' is what the row says. No condition. -/
namespace Go.Md
open Go.ChangeShapes Go.WideShapes Go.RowKit
variable {P : Program} {ft : FT}

theorem and_both {a b : Bool} (h1 : a = true) (h2 : b = true) : (a && b) = true := by rw [h1, h2]; rfl
def rho0 (P : Program) : Rho := fun i => if i < P.globals.size then some ⟨i, 0, 0, 0⟩ else none
theorem rel_start {w : World} (h : P.globals.size ≤ w.heap.size) : Rel P ft w.heap.size w (rho0 P) .nil P.globals.size w := by
  refine ⟨fun id o hg => (by cases hg), fun i j oi oj gi gj hi => (by cases hi), fun id g hg => ?_, fun i hi => ⟨_, if_pos hi, rfl, rfl⟩, Nat.le_refl _, Below.refl _ _⟩
  unfold rho0 at hg
  split at hg
  · rename_i hlt
    cases hg
    exact ⟨hlt, Nat.lt_of_lt_of_le hlt h⟩
  · cases hg
theorem calls_of_memo {f : Nat} {hout : T AO} {nout : Nat} {x : Bool} (hm : MemoOk P ft f ⟨[], .nil, P.globals.size, .bool x, hout, nout⟩) {w : World} (h : P.globals.size ≤ w.heap.size) :
    Calls P f #[] w fun e w' => e = .returned (.bool x) ∧ Below w.heap.size w w' :=
  (hm w.heap.size w (rho0 P) w [] (rel_start h) rfl).mono fun _ _ ⟨_, _, he, _, hv, R⟩ => by
    cases hv
    exact ⟨he, R.below⟩
theorem size_of_shaped {w : World} (h : w.ShapedOpen P) (hlt : P.globals.size < (begin P (fun _ _ => 0) default).world.heap.size) : P.globals.size ≤ w.heap.size := by
  obtain ⟨o, _, h1, _⟩ := h.2 P.globals.size (Nat.le_refl _) hlt
  exact Nat.le_of_lt (Array.getElem?_eq_some_iff.1 h1).1

section
variable {H : Type} {enc : TypeId × Value → H}
/-- a law of no parameters that answers true, whatever the listed variables hold -/
theorem lifted_true {C : Checked} {os : Os} {f : FuncId} {fn : Func} {s : ChangeSpec} {t : TypeId} {apart fresh handsOn : Bool} {X : World → Array Value → Prop}
    (own : ownKnob C.prog.godebug = none) (started : os.Started) (noInit : C.prog.inits.idxOf? f = none) (hfn : C.prog.funcs[f]? = some fn)
    (witness : ∃ (w : World) (tape : Tape) (i : Input), w.os = os ∧ (w.forCall tape i).Shaped C.prog ∧ i.vars = [] ∧ Input.okWide C.prog (w.forCall tape i) .any w.heap.size f i ∧
      ((s.pre enc C.prog fn [] apart (w.forCall tape i).memory i.args ∧ X (w.forCall tape i).memory i.args) ∧ sizedMet enc C.prog fn (OpenSpec.ofChange s) apart (w.forCall tape i).memory i.args) ∧ ({} : Assume).holds C.prog (lone (Frame.enter C.prog f i.args .normal) [] (w.forCall tape i)))
    (hp : fn.params.toList = []) (hr : fn.resultTypes.toList = [t]) (ht : C.prog.underlying t = some .bool) (hv : s.vars = []) (hs : s.fn H [] = { results := [.lit (.bool true)], args := [] })
    (hlt : C.prog.globals.size < (begin C.prog (fun _ _ => 0) default).world.heap.size)
    (hc : ∀ w : World, C.prog.globals.size ≤ w.heap.size → Calls C.prog f #[] w fun e w' => e = .returned (.bool true) ∧ Below w.heap.size w w') :
    ReturnsInHanded {} C os f .any (fun w args => (s.pre enc C.prog fn [] apart w args ∧ X w args) ∧ sizedMet enc C.prog fn (OpenSpec.ofChange s) apart w args) (s.post enc C.prog fn apart fresh handsOn false) := by
  refine returnsInHanded_of_calls own started noInit witness ?_
  intro w tape i _ hsh _ hok hpre _
  obtain ⟨⟨⟨ds, gs, before, hw, _⟩, _⟩, _⟩ := hpre
  have hw' := DataW.Whole.of_heap (w' := w.forCall tape i) (by rfl) hw
  have hW' := hw'
  obtain ⟨p, q, hA0, hV0, rfl, hfz, hnd⟩ := hw'
  rw [hp] at hA0
  obtain ⟨ha, rfl, rfl⟩ := trodAll_none hA0
  rw [hv] at hV0
  obtain ⟨rfl, rfl⟩ := trodVars_none hV0
  rw [ha] at hW' ⊢
  refine (hc _ (size_of_shaped hsh hlt)).mono fun e W' ⟨he, hb⟩ => ?_
  subst he
  refine ChangeSpec.post_blind ⟨[], [], [], [], [], [], by simpa using hW', ?_, ?_, ?_, hb.frame _, fun h => by cases h⟩
  · have hsz : fn.resultTypes.size = 1 := by simpa using congrArg List.length hr
    rw [hr, hsz, show s.fn H ([] ++ []) = _ from hs]
    exact trodAll_mk1 (shut_bool ht true)
  · rw [hp, show s.fn H ([] ++ []) = _ from hs]
    rfl
  · rw [hv, show s.fn H ([] ++ []) = _ from hs]
    rfl
end
end Go.Md
end
