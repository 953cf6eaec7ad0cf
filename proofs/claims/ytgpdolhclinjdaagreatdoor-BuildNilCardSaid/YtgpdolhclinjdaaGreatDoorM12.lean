import Derived.Test.YtgpdolhclinjdaaGreatDoorM11
set_option linter.unusedVariables false
set_option linter.unusedSimpArgs false
set_option linter.unusedSectionVars false
section
/- SEGMENTS, whole. 'hnx': what a map's next entry does (MdC14). -/
namespace Go.Md
variable {P : Program} {ft : FT} {B : Nat} {w0 w w' : World} {ρ ρ' : Rho} {h h' : T AO} {nx nx' : Nat} {cs0 : List Frame} {rf : Nat}

/-- the statement on a map's next entry -/
def NxOk (P : Program) (ft : FT) (big : Big) (B : Nat) (w0 : World) (cs0 : List Frame) (rf : Nat) : Prop :=
  ∀ (ρ : Rho) (h : T AO) (nx : Nat) (w : World) (fr : AF) (b : Frame) (act : Act) (ops : Array Oper) (i : Nat) (rest : List Nat) (k' : List Item) (o : Oper) (d : Option Nat) (x : DX) (cs : List AF) (ms : List Frame) (n trk : Nat) (tm : T AV) (Δ : List (Option Nat)) (env : List AV),
    (∀ hh, FW P ft ρ hh fr b act (.inRegion ops (i :: rest) :: k')) → ops[i]? = some o → fr.ret = false → KR P ft ρ cs ms → rootRnd fr cs = none → rootFn fr cs = rf → Rel P ft B w0 ρ h nx w →
    (∀ x : Operand, (∀ t, x = .tmp t → t ∈ looks ops o) → XOk P ρ trk tm Δ env act x) → regFin P n trk ops Δ o (.nx d x) = some (.nx d x) →
    Come P ft B w0 cs0 rf ρ (lone (b.atR act (.inRegion ops (i :: rest) :: k')) (ms ++ cs0) w) (doFin ft big tm env fr cs h nx (.nx d x))

theorem doSeg_ok (hft : CodeOk P ft) {big : Big} (hbig : BigOk P ft B w0 big) (hnx : NxOk P ft big B w0 cs0 rf) {fr : AF} {b : Frame} {act : Act} {ops : Array Oper} {j : Nat} {k : List AI} {k' : List Item} {sg : Seg} {r : List Seg} {df : DF}
    (fb : FB ρ fr b act) (hdf : ft.get fr.fn = some df) (hs : df.n ≤ act.tmps.size) (htm : TmAll ρ df.trk fr.tm act.tmps) (ht : TRel P ρ df.n df.trk k k') (hreg : regSegs P df.n df.trk ops (sg :: r) (ops.toList.drop j) = some (sg :: r))
    (hret : fr.ret = false) {cs : List AF} {ms : List Frame} (K : KR P ft ρ cs ms) (h1 : rootRnd fr cs = none) (h2 : rootFn fr cs = rf) (R : Rel P ft B w0 ρ h nx w) :
    Come P ft B w0 cs0 rf ρ (lone (b.atR act (.inRegion ops (upFrom ops j) :: k')) (ms ++ cs0) w) (doSeg ft big fr k cs h nx sg r) := by
  unfold doSeg
  cases he : evalQs fr.tm h sg.qs [] with
  | none => trivial
  | some env =>
    simp only
    simp only [regSegs] at hreg
    split at hreg
    · rename_i qs' os' Δ hq
      split at hreg
      · rename_i hdst
        have hlt := dstsOk_lt hdst
        -- what the pieces are
        have base : ∀ (outs : List (Nat × Nat)), qs' = sg.qs → outsOf df.trk Δ 0 = sg.outs → ∃ a' j', os' = ops.toList.drop j' ∧ EnvR ρ df.n df.trk fr.tm Δ env a'.tmps ∧ a'.defers = act.defers ∧ TmAll ρ df.trk (writeOuts fr.tm env sg.outs) a'.tmps ∧
            Steps P (lone (b.atR act (.inRegion ops (upFrom ops j) :: k')) (ms ++ cs0) w) (lone (b.atR a' (.inRegion ops (upFrom ops j') :: k')) (ms ++ cs0) w) := by
          intro outs e1 e2
          rw [← e1] at he
          obtain ⟨a', j', c1, c2, c3, c4⟩ := segQs_run R (ops := ops) b k' (ms ++ cs0) _ j _ _ _ act _ _ _ rfl hq (htm.env hs) hlt env he
          exact ⟨a', j', c1, c2, c3, by rw [← e2]; exact c2.outs, c4⟩
        obtain ⟨qs, outs, fin⟩ := sg
        have fin1 : (∃ d, fin = d) := ⟨fin, rfl⟩
        by_cases hnop : fin = .nop
        · subst hnop
          simp only at hreg he base ⊢
          split at hreg
          · rename_i l hl
            simp only [Option.some.injEq, List.cons.injEq, Seg.mk.injEq, and_true] at hreg
            obtain ⟨⟨rfl, rfl⟩, rfl⟩ := hreg
            obtain ⟨a', j', c1, c2, c3, c4, c5⟩ := base [] rfl rfl
            refine Come.of_steps c5 ?_
            simp only [doFin, Fin.dst, finish]
            refine ⟨ρ, _, Rho.le.refl ρ, Steps.refl _ _, ⟨b, a', .inRegion ops (upFrom ops j') :: k', ms, w, ?_, R, fun _ => .plain (df := df) ⟨fb.put rfl rfl rfl c3, hdf, c2.size, c4, ?_⟩, fun hh => ?_, K⟩, ?_, ?_⟩
            · show _ = lone (if fr.ret then _ else _) _ _
              rw [hret]; rfl
            · rw [c1] at hl
              cases l with
              | nil =>
                have hnil : ops.toList.drop j' = [] := by
                  cases hd : ops.toList.drop j' with
                  | nil => rfl
                  | cons _ _ => rw [hd] at hl; cases hl
                have hge : ops.size ≤ j' := by
                  have := List.drop_eq_nil_iff.1 hnil
                  simpa using this
                rw [upFrom_ge hge]
                exact .pad ht
              | cons x l => exact .cons (.ops hl) ht
            · change fr.ret = true at hh
              rw [hret] at hh; cases hh
            · exact Eq.trans (rootRnd_eq (a := fr) (by rfl) cs) h1
            · exact Eq.trans (rootFn_eq (a := fr) (by rfl) cs) h2
          · cases hreg
        · have hreg' : ∃ o os2 f' l, os' = o :: os2 ∧ regFin P df.n df.trk ops Δ o fin = some f' ∧ regSegs P df.n df.trk ops r os2 = some l ∧ ({ qs := qs', outs := outsOf df.trk Δ 0, fin := f' } : Seg) :: l = { qs, outs, fin } :: r := by
            cases fin with
            | nop => exact absurd rfl hnop
            | _ =>
              simp only at hreg
              split at hreg
              · rename_i o os2
                split at hreg
                · rename_i f' l hf hl
                  exact ⟨o, os2, f', l, rfl, hf, hl, by simpa using hreg⟩
                · cases hreg
              · cases hreg
          obtain ⟨o, os2, f', l, e1, e2, e3, e4⟩ := hreg'
          simp only [List.cons.injEq, Seg.mk.injEq] at e4
          obtain ⟨⟨rfl, rfl, rfl⟩, rfl⟩ := e4
          obtain ⟨a', j', c1, c2, c3, c4, c5⟩ := base [] rfl rfl
          rw [e1] at c1
          obtain ⟨ho, hj', hos2⟩ := drop_cons c1
          rw [hos2] at e3
          refine Come.of_steps c5 ?_
          have hkd : keepDst df.n df.trk o.dst = some f'.dst := by
            cases f' with
            | nop => exact absurd rfl hnop
            | s d g k xs =>
              simp only [regFin] at e2
              split at e2
              · split at e2
                · rename_i hd _ _; cases e2; exact hd
                · cases e2
              · cases e2
            | call d g f xs =>
              simp only [regFin] at e2
              split at e2
              · split at e2
                · rename_i hd _ _; cases e2; exact hd
                · cases e2
              · cases e2
            | callv d g f xs =>
              simp only [regFin] at e2
              split at e2
              · split at e2
                · rename_i hd _ _ _; cases e2; exact hd
                · cases e2
              · cases e2
            | nx d x =>
              simp only [regFin] at e2
              split at e2
              · split at e2
                · rename_i hd _; cases e2; exact hd
                · cases e2
              · cases e2
            | qs d q =>
              simp only [regFin] at e2
              split at e2
              · rename_i hd _; cases e2; exact hd
              · cases e2
          have hW : ∀ hh, FW P ft ρ hh { fr with tm := writeOuts fr.tm env (outsOf df.trk Δ 0), todo := .opsw f'.dst l :: k } b a' (.inRegion ops (upFrom ops j') :: k') := fun hh =>
            .opsw (df := df) (fb.put rfl rfl rfl c3) hdf c2.size c4 rfl ho hkd e3 ht
          rw [upFrom_lt hj'] at hW ⊢
          by_cases hn : ∃ d x, f' = .nx d x
          · obtain ⟨d, x, rfl⟩ := hn
            exact hnx ρ h nx w _ b a' ops j' _ k' o d x cs ms df.n df.trk fr.tm Δ env hW ho hret K (Eq.trans (rootRnd_eq (a := fr) (by rfl) cs) h1) (Eq.trans (rootFn_eq (a := fr) (by rfl) cs) h2) R (fun x _ => c2.xok R x) e2
          · exact doFin_ok hft hbig (fun d x e => hn ⟨d, x, e⟩) (fun _ => hW) (hW h) ho hret K (Eq.trans (rootRnd_eq (a := fr) (by rfl) cs) h1) (Eq.trans (rootFn_eq (a := fr) (by rfl) cs) h2) R (fun x _ => c2.xok R x) e2
      · cases hreg
    · cases hreg
end Go.Md
end
section
/- A STEP IN A REGION THAT DRAWS ITS ORDER. No condition. -/
namespace Go.Md
variable {U : List (Nat × Nat)} {P : Program} {ft : FT} {B : Nat} {w0 w w' : World} {ρ ρ' : Rho} {h h' : T AO} {nx nx' : Nat} {cs0 : List Frame} {rf : Nat}

theorem regFin_dst {n trk : Nat} {ops : Array Oper} {Δ : List (Option Nat)} {o : Oper} {f : Fin} (e2 : regFin P n trk ops Δ o f = some f) : keepDst n trk o.dst = some f.dst := by
  cases f with
  | nop => cases e2
  | s d g k xs =>
    simp only [regFin] at e2
    split at e2
    · split at e2
      · rename_i hd _ _; cases e2; exact hd
      · cases e2
    · cases e2
  | call d g f xs =>
    simp only [regFin] at e2
    split at e2
    · split at e2
      · rename_i hd _ _; cases e2; exact hd
      · cases e2
    · cases e2
  | callv d g f xs =>
    simp only [regFin] at e2
    split at e2
    · split at e2
      · rename_i hd _ _ _; cases e2; exact hd
      · cases e2
    · cases e2
  | nx d x =>
    simp only [regFin] at e2
    split at e2
    · split at e2
      · rename_i hd _; cases e2; exact hd
      · cases e2
    · cases e2
  | qs d q =>
    simp only [regFin] at e2
    split at e2
    · rename_i hd _; cases e2; exact hd
    · cases e2

theorem regDr_nx {n trk : Nat} {ops : Array Oper} {done : List Nat} {i : Nat} {f : Fin} {re : List (Nat × DQ)} {l : List DI} (hr : regDr P n trk ops U done (.s i f re :: l) = some (.s i f re :: l)) : ∀ d x, f ≠ .nx d x := by
  rintro d x rfl
  simp only [regDr] at hr
  split at hr
  · split at hr
    · rename_i o ho
      split at hr
      · split at hr
        · split at hr
          · rename_i f' re' l' h1 h2 h3
            have hf : ∃ d' x', f' = .nx d' x' := by
              simp only [regFin] at h1
              split at h1
              · split at h1
                · cases h1; exact ⟨_, _, rfl⟩
                · cases h1
              · cases h1
            obtain ⟨d', x', rfl⟩ := hf
            cases hr
          · cases hr
        · cases hr
      · simp at hr
    · cases hr
  · cases hr

theorem stepDr_ok (hft : CodeOk P ft) {big : Big} (hbig : BigOk P ft B w0 big) {fr : AF} {b : Frame} {act : Act} {ops : Array Oper} {done rest : List Nat} {l : List DI} {k : List AI} {k' : List Item} {df : DF}
    (fb : FB ρ fr b act) (hdf : ft.get fr.fn = some df) (D : DInv P ρ df.n df.trk ops U done l rest fr.tm act.tmps (fun _ q v => evalQ fr.tm [] h q = some v)) (ht : TRel P ρ df.n df.trk k k')
    (hret : fr.ret = false) {cs : List AF} {ms : List Frame} (K : KR P ft ρ cs ms) (h1 : rootRnd fr cs = none) (h2 : rootFn fr cs = rf) (R : Rel P ft B w0 ρ h nx w) :
    Come P ft B w0 cs0 rf ρ (lone (b.atR act (.inRegion ops rest :: k')) (ms ++ cs0) w) (stepDr ft big fr cs h nx k l) := by
  cases l with
  | nil =>
    simp only [stepDr]
    obtain ⟨a', c1, c2, c3, c4⟩ := D.ends b k' (ms ++ cs0) R
    refine ⟨ρ, _, Rho.le.refl ρ, c4, ⟨b, a', .inRegion ops [] :: k', ms, w, ?_, R, fun _ => .plain (df := df) ⟨fb.put rfl rfl rfl c3, hdf, c2, c1, .pad ht⟩, fun hh => ?_, K⟩, Eq.trans (rootRnd_eq (a := fr) (by rfl) cs) h1, Eq.trans (rootFn_eq (a := fr) (by rfl) cs) h2⟩
    · show _ = lone (if fr.ret then _ else _) _ _
      rw [hret]; rfl
    · change fr.ret = true at hh
      rw [hret] at hh; cases hh
  | cons it l =>
    cases it with
    | q i d q =>
      simp only [stepDr]
      cases hv : evalQ fr.tm [] h q with
      | none => trivial
      | some v =>
        simp only
        have D' := D.quiet hv
        refine ⟨ρ, _, Rho.le.refl ρ, Steps.refl _ _, ⟨b, act, .inRegion ops rest :: k', ms, w, ?_, R, fun _ => .dr (df := df) (fb.put rfl rfl rfl rfl) hdf rfl D' ht, fun hh => ?_, K⟩, Eq.trans (rootRnd_eq (a := fr) (by rfl) cs) h1, Eq.trans (rootFn_eq (a := fr) (by rfl) cs) h2⟩
        · show _ = lone (if fr.ret then _ else _) _ _
          rw [hret]; rfl
        · change fr.ret = true at hh
          rw [hret] at hh; cases hh
    | s i f re =>
      simp only [stepDr]
      obtain ⟨o, S⟩ := regDr_s D.reg
      obtain ⟨A, C, rfl, hA⟩ := D.split
      obtain ⟨a', D', c3, c4⟩ := DInv.runs b k' (ms ++ cs0) R (i :: C) A act D hA
      refine Come.of_steps c4 ?_
      have hdst : o.dst = f.dst := by
        have := regFin_dst S.fin
        rw [S.dst] at this
        simpa using this
      have hWf : isQs f = false → ∀ hh, FW P ft ρ hh { fr with todo := .drw f.dst re l :: k } b a' (.inRegion ops (i :: C) :: k') := fun hq hh =>
        .drw (df := df) (U := U) (done := i :: done) (fb.put rfl rfl rfl c3) hdf rfl S.op hdst (fun ρ' v u hr hu => by
          have := D'.after S (okW_of D' S hq) hr hu
          rw [hdst] at this
          exact this.ok_mono fun d q x _ hx => by
            rcases hx with hx | hx
            · exact .inl (hx hh)
            · exact .inr hx) ht
      have hWq : FW P ft ρ h { fr with todo := .drw f.dst re l :: k } b a' (.inRegion ops (i :: C) :: k') := by
        refine .drw (df := df) (U := U) (done := i :: done) (fb.put rfl rfl rfl c3) hdf rfl S.op hdst (fun ρ' v u hr hu => ?_) ht
        have := D'.after S (ok' := okR (putD fr.tm o.dst v) h re) (v := v) (fun j hj hd o' q d x p1 p2 p3 p4 p5 p6 => .inl (by rw [p5]; exact p4)) hr hu
        rw [hdst] at this
        exact this
      exact doFin_ok hft hbig (regDr_nx D.reg) hWf hWq S.op hret K (Eq.trans (rootRnd_eq (a := fr) (by rfl) cs) h1) (Eq.trans (rootFn_eq (a := fr) (by rfl) cs) h2) R
        (fun x hx => D'.xok R S.op S.data hx) S.fin

/-- what is asked again -/
theorem stepDrr_ok {fr : AF} {b : Frame} {act : Act} {ops : Array Oper} {done rest : List Nat} {re : List (Nat × DQ)} {l : List DI} {k : List AI} {k' : List Item} {df : DF}
    (fb : FB ρ fr b act) (hdf : ft.get fr.fn = some df) (D : DInv P ρ df.n df.trk ops U done l rest fr.tm act.tmps (okR fr.tm h re)) (ht : TRel P ρ df.n df.trk k k')
    (hret : fr.ret = false) {cs : List AF} {ms : List Frame} (K : KR P ft ρ cs ms) (h1 : rootRnd fr cs = none) (h2 : rootFn fr cs = rf) (R : Rel P ft B w0 ρ h nx w) :
    Come P ft B w0 cs0 rf ρ (lone (b.atR act (.inRegion ops rest :: k')) (ms ++ cs0) w) (match recheck fr.tm h re with
      | true => .go { fr := { fr with todo := .dr l :: k }, cs, h, nx }
      | false => .bad) := by
  cases hc : recheck fr.tm h re with
  | false => trivial
  | true =>
    have D' := D.ok_mono (ok' := fun _ q v => evalQ fr.tm [] h q = some v) fun d q v hv hx => by
      rcases hx with hx | hx
      · exact hx
      · exact recheck_spec hc d q hx v hv
    refine ⟨ρ, _, Rho.le.refl ρ, Steps.refl _ _, ⟨b, act, .inRegion ops rest :: k', ms, w, ?_, R, fun _ => .dr (df := df) (fb.put rfl rfl rfl rfl) hdf rfl D' ht, fun hh => ?_, K⟩, Eq.trans (rootRnd_eq (a := fr) (by rfl) cs) h1, Eq.trans (rootFn_eq (a := fr) (by rfl) cs) h2⟩
    · show _ = lone (if fr.ret then _ else _) _ _
      rw [hret]; rfl
    · change fr.ret = true at hh
      rw [hret] at hh; cases hh
end Go.Md
end
section
/- CONTROL: the steps of code. No condition. -/
namespace Go.Md
variable {P : Program} {ft : FT} {B : Nat} {w0 w w' : World} {ρ ρ' : Rho} {h h' : T AO} {nx nx' : Nat} {cs0 : List Frame} {rf : Nat}

theorem come_go {m : Machine} {fr : AF} {b : Frame} {act : Act} {todo : List Item} {cs : List AF} {ms : List Frame} (hs : Steps P m (lone (b.atR act todo) (ms ++ cs0) w)) (hr : ρ.le ρ') (R : Rel P ft B w0 ρ' h nx w) (hF : FR P ft ρ' h fr b act todo) (hret : fr.ret = false)
    (K : KR P ft ρ' cs ms) (h1 : rootRnd fr cs = none) (h2 : rootFn fr cs = rf) : Come P ft B w0 cs0 rf ρ m (.go { fr, cs, h, nx }) := by
  refine ⟨ρ', _, hr, hs, ⟨b, act, todo, ms, w, ?_, R, fun _ => hF, fun hh => ?_, K⟩, h1, h2⟩
  · show _ = lone (if fr.ret then _ else _) _ _
    rw [hret]; rfl
  · change fr.ret = true at hh
    rw [hret] at hh; cases hh

/-- the todo list goes on; nothing else -/
theorem come_todo {m : Machine} {fr : AF} {b : Frame} {act : Act} {todo : List Item} {k : List AI} {df : DF} {cs : List AF} {ms : List Frame} (hs : Steps P m (lone (b.atR act todo) (ms ++ cs0) w)) (R : Rel P ft B w0 ρ h nx w)
    (fb : FB ρ fr b act) (hdf : ft.get fr.fn = some df) (hsz : df.n ≤ act.tmps.size) (htm : TmAll ρ df.trk fr.tm act.tmps) (ht : TRel P ρ df.n df.trk k todo) (hret : fr.ret = false)
    (K : KR P ft ρ cs ms) (h1 : rootRnd fr cs = none) (h2 : rootFn fr cs = rf) : Come P ft B w0 cs0 rf ρ m (.go { fr := { fr with todo := k }, cs, h, nx }) :=
  come_go hs (Rho.le.refl ρ) R (.plain (df := df) ⟨fb.put rfl rfl rfl rfl, hdf, hsz, htm, ht⟩) hret K (Eq.trans (rootRnd_eq (a := fr) (by rfl) cs) h1) (Eq.trans (rootFn_eq (a := fr) (by rfl) cs) h2)
/-- a loop's object is written -/
theorem setLoop_ok (R : Rel P ft B w0 ρ h nx w) {l fn st dfr : Nat} {tm : T AV} {ps : List Nat} {asg body : DC} {pend : Option DC} (hg : h.get l = some (.loop fn tm ps asg body st pend dfr)) {g : Gh} (hρ : ρ l = some g) :
    ∃ r : Loop, w.heap[g.b]? = some (.loop r) ∧ r.state = stOf st ∧ PendRel P ft fn pend r.pending ∧ (∀ (r2 : Loop) st' pend', r2 = { r with state := stOf st', pending := r2.pending } → st' < 4 → PendRel P ft fn pend' r2.pending →
      (Go.setObj g.b (.loop r2)).run P w = .ok () { w with heap := w.heap.setIfInBounds g.b (.loop r2) } ∧ Rel P ft B w0 ρ (h.set l (.loop fn tm ps asg body st' pend' dfr)) nx { w with heap := w.heap.setIfInBounds g.b (.loop r2) }) := by
  obtain ⟨hB, r, hb, hst, hst4, hpend, hfn, htm, hps, hasg, hbody, hdfr, hsize, htrk⟩ := R.loop hg hρ
  have hbl : g.b < w.heap.size := (R.dom _ _ hρ).2
  refine ⟨r, hb, hst, hpend, fun r2 st' pend' e h4 hp => ⟨run_setObj hb (fun _ _ _ h => by cases h), ?_⟩⟩
  refine R.upd hg hρ rfl (Diff.setObj _ hB hbl) ⟨r2, setObj_self _ _ hbl, by rw [e], h4, hp, by rw [e]; exact hfn, by rw [e]; exact htm, by rw [e]; exact hps, by rw [e]; exact hasg, by rw [e]; exact hbody, by rw [e]; exact hdfr, by rw [e]; exact hsize, htrk⟩
end Go.Md
end
section
/- A FRAME'S CODE IS AT ITS END, or jumps out of it. No condition. -/
namespace Go.Md
variable {P : Program} {ft : FT} {B : Nat} {w0 w w' : World} {ρ ρ' : Rho} {h h' : T AO} {nx nx' : Nat} {cs0 : List Frame} {rf : Nat}

def jSt : Option DC → Nat
  | none => 0
  | some _ => 2
def jB : Option DC → Bool
  | none => true
  | some _ => false

/-- a round's end -/
theorem round_end (R : Rel P ft B w0 ρ h nx w) {fr : AF} {l : Nat} (hroot : fr.rnd = some l) {cs : List AF} {ms : List Frame} (K : KR P ft ρ cs ms) (h1 : rootRnd fr cs = none) (h2 : rootFn fr cs = rf) {g : Gh} (hρ : ρ l = some g) {jump : Option DC} {jc : Option Code} {m : Machine}
    (hj : ∀ fn tm ps asg body st pend d, h.get l = some (.loop fn tm ps asg body st pend d) → PendRel P ft fn jump jc) (hjn : jump.isNone = jc.isNone)
    (hm : ∀ c v w', (Instr.endRound g.b jc).run P w = .ok v w' → Steps P m (lone (c.finish v) (ms.tail ++ cs0) w') ∨ ms.head? ≠ some c) :
    Come P ft B w0 cs0 rf ρ m (match h.get l with
    | some (.loop fn tm ps asg body _ _ d) =>
      retTo cs (h.set l (.loop fn tm ps asg body (jSt jump) jump d)) nx (.bool (jB jump))
    | _ => .bad) := by
  cases hg : h.get l with
  | none => trivial
  | some o =>
    cases o <;> try trivial
    rename_i fn tm ps asg body st pend dfr
    simp only
    obtain ⟨r, hb, hst, hp, hset⟩ := setLoop_ok R hg hρ
    obtain ⟨hrun, R'⟩ := hset { r with state := stOf (jSt jump), pending := jc } (jSt jump) jump rfl (by cases jump <;> (simp [jSt])) (hj _ _ _ _ _ _ _ _ hg)
    have hend : (Instr.endRound g.b jc).run P w = .ok (.bool jc.isNone) { w with heap := w.heap.setIfInBounds g.b (.loop { r with state := stOf (jSt jump), pending := jc }) } := by
      have e : (if jc.isNone then LoopState.ready else LoopState.done) = stOf (jSt jump) := by rw [← hjn]; cases jump <;> rfl
      simp only [Instr.endRound, Sem.run_bind, run_getLoop hb, Result.andThen_ok, e, hrun, Sem.run_pure]
    cases K with
    | nil =>
      change fr.rnd = none at h1
      rw [hroot] at h1; cases h1
    | cons hW hret K =>
      rename_i c cs b act todo ms
      simp only [retTo]
      rcases hm (b.atR act todo) _ _ hend with hs | hs
      · refine Come.of_steps hs ?_
        have hv : VRel ρ (.bool (jB jump)) (.bool jc.isNone) := by
          show Value.bool jc.isNone = Value.bool _
          rw [← hjn]; cases jump <;> rfl
        exact come_finish (hW _) hret K h1 h2 (Rho.le.refl ρ) R' hv
      · exact absurd rfl hs
end Go.Md
end
section
/- CODE THAT LEAVES ITS FRAME. No condition. -/
namespace Go.Md
variable {P : Program} {ft : FT} {B : Nat} {w0 w w' : World} {ρ ρ' : Rho} {h h' : T AO} {nx nx' : Nat} {cs0 : List Frame} {rf : Nat}

/-- the end of a function's code: it returns -/
theorem come_ret {m : Machine} {fr : AF} {b : Frame} {act : Act} {todo : List Item} {df : DF} {cs : List AF} {ms : List Frame} (hs : Steps P m (lone { b.atR act todo with mode := .returning } (ms ++ cs0) w)) (R : Rel P ft B w0 ρ h nx w)
    (fb : FB ρ fr b act) (hdf : ft.get fr.fn = some df) (hsz : df.n ≤ act.tmps.size) (htm : TmAll ρ df.trk fr.tm act.tmps)
    (K : KR P ft ρ cs ms) (h1 : rootRnd fr cs = none) (h2 : rootFn fr cs = rf) : Come P ft B w0 cs0 rf ρ m (.go { fr := { fr with ret := true }, cs, h, nx }) := by
  refine ⟨ρ, _, Rho.le.refl ρ, hs, ⟨b, act, todo, ms, w, ?_, R, fun hh => (by cases hh), fun _ => ⟨fb.put rfl rfl rfl rfl, df, hdf, hsz, htm⟩, K⟩, Eq.trans (rootRnd_eq (a := fr) (by rfl) cs) h1, Eq.trans (rootFn_eq (a := fr) (by rfl) cs) h2⟩
  rfl

theorem leave_ok {fr : AF} {b : Frame} {act : Act} {k' : List Item} {df : DF} {jump : Option DC} {todo : List Item}
    (hj : (jump = none ∧ todo = []) ∨ (jump = some .ret ∧ todo = .code .ret :: k') ∨ (∃ id, jump = some (.exit id) ∧ todo = .code (.exit id) :: k' ∧ Go.exitTo id k' = none) ∨ (∃ l, jump = some (.goto l) ∧ todo = .code (.goto l) :: k' ∧ Go.gotoIn l k' = none))
    (fb : FB ρ fr b act) (hdf : ft.get fr.fn = some df) (hsz : df.n ≤ act.tmps.size) (htm : TmAll ρ df.trk fr.tm act.tmps) (hft : CodeOk P ft)
    {cs : List AF} {ms : List Frame} (K : KR P ft ρ cs ms) (h1 : rootRnd fr cs = none) (h2 : rootFn fr cs = rf) (R : Rel P ft B w0 ρ h nx w) :
    Come P ft B w0 cs0 rf ρ (lone (b.atR act todo) (ms ++ cs0) w) (leave fr cs h nx jump) := by
  cases hrnd : fr.rnd with
  | none =>
    have hb : b.roundOf = none := by
      have := fb.rnd
      rw [hrnd] at this
      cases hb : b.roundOf with
      | none => rfl
      | some x => rw [hb] at this; exact this.elim
    delta leave; simp only [hrnd]
    rcases hj with ⟨rfl, rfl⟩ | ⟨rfl, rfl⟩ | ⟨id, rfl, rfl, _⟩ | ⟨l, rfl, rfl, _⟩
    · have := come_ret (cs0 := cs0) (.one (stepR_end hb)) R fb hdf hsz htm K h1 h2
      simp only [hrnd] at this
      exact this
    · have := come_ret (cs0 := cs0) (.one (stepR_ret (k := k') hb)) R fb hdf hsz htm K h1 h2
      simp only [hrnd] at this
      exact this
    · trivial
    · trivial
  | some l =>
    have hb := fb.rnd
    rw [hrnd] at hb
    cases hbr : b.roundOf with
    | none => rw [hbr] at hb; exact hb.elim
    | some gb =>
      rw [hbr] at hb
      obtain ⟨g, hρ, rfl⟩ := hb
      delta leave; simp only [hrnd]
      have cr : ∀ fn tm ps asg body st pend d (dc : DC) (c : Code), h.get l = some (.loop fn tm ps asg body st pend d) → (∀ n trk, regCode P n trk c dc = some dc) → CRel P ft fn dc c := by
        intro fn tm ps asg body st pend d dc c hg hc
        obtain ⟨_, r, _, _, _, _, _, ⟨df2, hdf2, _⟩, _⟩ := R.loop hg hρ
        obtain ⟨fnn, hfnn, _⟩ := hft fn df2 hdf2
        exact ⟨df2, fnn, hdf2, hfnn, hc _ _⟩
      have fin : ∀ {jc : Option Code}, (∀ fn tm ps asg body st pend d, h.get l = some (.loop fn tm ps asg body st pend d) → PendRel P ft fn jump jc) → jump.isNone = jc.isNone →
          (∀ c cs' v w', (Instr.endRound g.b jc).run P w = .ok v w' → Go.step P (lone (b.atR act todo) (c :: cs') w) = .next (lone (c.finish v) cs' w')) →
          Come P ft B w0 cs0 rf ρ (lone (b.atR act todo) (ms ++ cs0) w) (match h.get l with
            | some (.loop fn tm ps asg body _ _ d) => retTo cs (h.set l (.loop fn tm ps asg body (jSt jump) jump d)) nx (.bool (jB jump))
            | _ => .bad) := by
        intro jc hp hn hs
        refine round_end R hrnd K h1 h2 hρ hp hn fun c v w' hr => ?_
        cases ms with
        | nil => exact .inr (by simp)
        | cons c0 ms0 =>
          by_cases e : c0 = c
          · subst e; exact .inl (.one (hs _ _ _ _ hr))
          · exact .inr (by simpa using e)
      rcases hj with ⟨rfl, rfl⟩ | ⟨rfl, rfl⟩ | ⟨id, rfl, rfl, hx⟩ | ⟨t, rfl, rfl, hx⟩
      · exact fin (jc := none) (fun _ _ _ _ _ _ _ _ _ => trivial) rfl fun c cs' v w' hr => stepR_round_end hbr fb.kind hr
      · exact fin (jc := some .ret) (fun fn tm ps asg body st pend d hg => cr fn tm ps asg body st pend d _ _ hg fun _ _ => rfl) rfl fun c cs' v w' hr => stepR_round_ret hbr fb.kind hr
      · exact fin (jc := some (.exit id)) (fun fn tm ps asg body st pend d hg => cr fn tm ps asg body st pend d _ _ hg fun _ _ => rfl) rfl fun c cs' v w' hr => stepR_round_exit hbr fb.kind hx hr
      · exact fin (jc := some (.goto t)) (fun fn tm ps asg body st pend d hg => cr fn tm ps asg body st pend d _ _ hg fun _ _ => rfl) rfl fun c cs' v w' hr => stepR_round_goto hbr fb.kind hx hr
end Go.Md
end
section
/- A STEP OF CODE. No condition. -/
namespace Go.Md
variable {P : Program} {ft : FT} {B : Nat} {w0 w w' : World} {ρ ρ' : Rho} {h h' : T AO} {nx nx' : Nat} {cs0 : List Frame} {rf : Nat}

theorem stepC1_ok (hft : CodeOk P ft) {big : Big} (hbig : BigOk P ft B w0 big) (hnx : NxOk P ft big B w0 cs0 rf) (hmix : P.follows .mixedOrders = true) {fr : AF} {b : Frame} {act : Act} {k : List AI} {k' : List Item} {c : Code} {dc : DC} {df : DF} {cs : List AF} {ms : List Frame}
    (hrf : ∀ f ps asg body, dc = .rf f ps asg body → Come P ft B w0 cs0 rf ρ (lone (b.atR act (.code c :: k')) (ms ++ cs0) w) (stepRf ft big fr cs h nx k f ps asg body))
    (hc : regCode P df.n df.trk c dc = some dc) (fb : FB ρ fr b act) (hdf : ft.get fr.fn = some df) (hsz : df.n ≤ act.tmps.size) (htm : TmAll ρ df.trk fr.tm act.tmps) (ht : TRel P ρ df.n df.trk k k') (hret : fr.ret = false)
    (K : KR P ft ρ cs ms) (h1 : rootRnd fr cs = none) (h2 : rootFn fr cs = rf) (R : Rel P ft B w0 ρ h nx w) :
    Come P ft B w0 cs0 rf ρ (lone (b.atR act (.code c :: k')) (ms ++ cs0) w) (stepC1 ft big fr cs h nx k dc) := by
  have todo : ∀ {kk : List AI} {tt : List Item}, Go.step P (lone (b.atR act (.code c :: k')) (ms ++ cs0) w) = .next (lone (b.atR act tt) (ms ++ cs0) w) → TRel P ρ df.n df.trk kk tt → Come P ft B w0 cs0 rf ρ (lone (b.atR act (.code c :: k')) (ms ++ cs0) w) (.go { fr := { fr with todo := kk }, cs, h, nx }) :=
    fun hs htt => come_todo (.one hs) R fb hdf hsz htm htt hret K h1 h2
  cases dc with
  | bad => trivial
  | rf f ps asg body => exact hrf f ps asg body rfl
  | skip =>
    cases c <;> simp only [regCode] at hc <;> try (cases hc; done)
    exact todo stepR_skip ht
  | label l =>
    cases c <;> simp only [regCode] at hc <;> try (cases hc; done)
    exact todo stepR_label ht
  | seq x y =>
    cases c <;> simp only [regCode] at hc <;> try (cases hc; done)
    split at hc
    · rename_i hx hy
      simp only [Option.some.injEq, DC.seq.injEq] at hc
      obtain ⟨rfl, rfl⟩ := hc
      exact todo stepR_seq (.cons (.c hx) (.cons (.c hy) ht))
    · cases hc
  | block id x =>
    cases c <;> simp only [regCode] at hc <;> try (cases hc; done)
    obtain ⟨x', hx, e⟩ := Option.map_eq_some_iff.1 hc
    simp only [DC.block.injEq] at e
    obtain ⟨rfl, rfl⟩ := e
    exact todo stepR_block (.cons (.c hx) (.cons .blk ht))
  | loop x =>
    cases c <;> simp only [regCode] at hc <;> try (cases hc; done)
    obtain ⟨x', hx, e⟩ := Option.map_eq_some_iff.1 hc
    simp only [DC.loop.injEq] at e
    subst e
    exact todo stepR_loop (.cons (.c hx) (.cons (.lp hx) ht))
  | scope x =>
    cases c <;> simp only [regCode] at hc <;> try (cases hc; done)
    obtain ⟨x', hx, e⟩ := Option.map_eq_some_iff.1 hc
    simp only [DC.scope.injEq] at e
    subst e
    exact todo (step_lone_go (by simp [stepG, stepG.exec, Frame.atR])) (.cons (.c hx) (.cons (.scp hx) ht))
  | cond x p q =>
    cases c <;> simp only [regCode] at hc <;> try (cases hc; done)
    rename_i cx p' q'
    split at hc
    · rename_i x' pp qq hx hp hq
      simp only [Option.some.injEq, DC.cond.injEq] at hc
      obtain ⟨rfl, rfl, rfl⟩ := hc
      have hX := (htm.env hsz).xok R cx x'
      simp only [stepC1]
      split
      · rename_i t hv
        have he : act.eval cx = .bool t := hX _ hx hv
        refine todo (stepR_cond he) (.cons (.c ?_) ht)
        cases t
        · exact hq
        · exact hp
      · trivial
    · cases hc
  | ret =>
    cases c <;> simp only [regCode] at hc <;> try (cases hc; done)
    exact leave_ok (k' := k') (.inr (.inl ⟨rfl, rfl⟩)) fb hdf hsz htm hft K h1 h2 R
  | exit id =>
    cases c <;> simp only [regCode] at hc <;> try (cases hc; done)
    simp only [Option.some.injEq, DC.exit.injEq] at hc
    subst hc
    obtain ⟨e1, e2⟩ := exitTo_rel (id := _) ht
    simp only [stepC1]
    split
    · rename_i r hr
      obtain ⟨r', e3, e4⟩ := e1 r hr
      exact todo (stepR_exit e3) e4
    · rename_i hr
      exact leave_ok (k' := k') (.inr (.inr (.inl ⟨_, rfl, rfl, e2 hr⟩))) fb hdf hsz htm hft K h1 h2 R
  | goto l =>
    cases c <;> simp only [regCode] at hc <;> try (cases hc; done)
    simp only [Option.some.injEq, DC.goto.injEq] at hc
    subst hc
    obtain ⟨e1, e2⟩ := gotoIn_rel (l := _) ht
    simp only [stepC1]
    split
    · rename_i r hr
      obtain ⟨r', e3, e4⟩ := e1 r hr
      exact todo (stepR_goto e3) e4
    · rename_i hr
      exact leave_ok (k' := k') (.inr (.inr (.inr ⟨_, rfl, rfl, e2 hr⟩))) fb hdf hsz htm hft K h1 h2 R
  | ops l =>
    cases c <;> (try simp only [regCode] at hc) <;> try (cases hc; done)
    rename_i id ops draw
    cases draw with
    | true => simp [regCode] at hc
    | false =>
      simp only [regCode, Option.map_eq_some_iff, DC.ops.injEq] at hc
      obtain ⟨l', hl, rfl⟩ := hc
      cases l' with
      | nil =>
        have hnil : ops.toList = [] := by
          cases hd : ops.toList with
          | nil => rfl
          | cons _ _ => rw [hd] at hl; cases hl
        have hs0 : ops.size = 0 := by rw [← Array.length_toList, hnil]; rfl
        refine todo (tt := .inRegion ops [] :: k') ?_ (.pad ht)
        rw [stepR_region, hs0]; rfl
      | cons sg r =>
        simp only [stepC1]
        refine Come.of_steps (.one stepR_region) ?_
        rw [← upFrom_zero]
        exact doSeg_ok hft hbig hnx fb hdf hsz htm ht (by simpa using hl) hret K h1 h2 R
  | dr l =>
    cases c <;> (try simp only [regCode] at hc) <;> try (cases hc; done)
    rename_i id ops draw
    cases draw with
    | false => simp [regCode] at hc
    | true =>
      simp only [regCode, Option.map_eq_some_iff, DC.dr.injEq] at hc
      obtain ⟨l', hl, rfl⟩ := hc
      simp only [stepC1]
      exact come_go (.one stepR_region_draw) (Rho.le.refl ρ) R.drew (.dr (df := df) (fb.put rfl rfl rfl rfl) hdf rfl (DInv.begins hl htm hsz hmix _ (fun _ h => by cases h)) ht) hret K (Eq.trans (rootRnd_eq (a := fr) (by rfl) cs) h1) (Eq.trans (rootFn_eq (a := fr) (by rfl) cs) h2)
  | drt t =>
    cases c <;> (try simp only [regCode] at hc) <;> try (cases hc; done)
    rename_i id ops draw
    cases draw with
    | false => simp [regCode] at hc
    | true =>
      simp only [regCode, Option.map_eq_some_iff, DC.drt.injEq] at hc
      obtain ⟨t', ht', rfl⟩ := hc
      simp only [stepC1]
      have hsch : ∀ x, Region.schedule (P.follows .mixedOrders) ops x = Region.linearise .any ops x := fun x => by simp [Region.schedule, hmix]
      have hac := tree_hac ht'
      obtain ⟨L, hL⟩ := linearise_lin hac (w.tape w.drawn (.order b.fn id))
      obtain ⟨l, hl, U', hr, hU⟩ := tree_leaf L hL ht' (fun _ h => by cases h)
      have C := come_go (cs0 := cs0) (.one (stepR_region_draw (id := id) (ops := ops))) (Rho.le.refl ρ) R.drew (.dr (df := df) (fb.put (a' := { fr with todo := .dr l :: k }) rfl rfl rfl rfl) hdf rfl (DInv.begins hr htm hsz hmix _ hU) ht) hret K (Eq.trans (rootRnd_eq (a := fr) (by rfl) cs) h1) (Eq.trans (rootFn_eq (a := fr) (by rfl) cs) h2)
      obtain ⟨ρ2, m2, d1, d2, d3⟩ := C
      exact ⟨_, List.mem_map.2 ⟨l, hl, rfl⟩, ρ2, m2, d1, d2, d3⟩
end Go.Md
end
section
/- A MAP'S NEXT ENTRY: whichever the model draws, it is one of D's. No condition. -/
namespace Go.Md
variable {P : Program} {ft : FT} {B : Nat} {w0 w w' : World} {ρ ρ' : Rho} {h h' : T AO} {nx nx' : Nat} {cs0 : List Frame} {rf : Nat}

theorem memN_iff {n : Nat} : ∀ {l : List Nat}, memN n l = true ↔ n ∈ l
  | [] => by simp [memN]
  | x :: r => by
    simp only [memN]
    split
    · rename_i hb; simp [eq_of_beq' hb]
    · rename_i hb
      have : n ≠ x := fun e => ne_of_beq' hb e.symm
      rw [memN_iff]; simp [this]
theorem memN_false {n : Nat} {l : List Nat} : memN n l = false ↔ n ∉ l := by
  rw [← memN_iff]; simp
theorem mem_leftOf {seen : List Nat} {x : AV × AV × Nat} : ∀ {es : List (AV × AV × Nat)}, x ∈ leftOf seen es ↔ x ∈ es ∧ x.2.2 ∉ seen
  | [] => by simp [leftOf]
  | e :: r => by
    simp only [leftOf]
    split
    · rename_i hb
      rw [mem_leftOf]
      constructor
      · rintro ⟨a, b⟩; exact ⟨List.mem_cons_of_mem _ a, b⟩
      · rintro ⟨a, b⟩
        rcases List.mem_cons.1 a with e1 | a
        · subst e1; exact absurd (memN_iff.1 hb) b
        · exact ⟨a, b⟩
    · rename_i hb
      rw [List.mem_cons, mem_leftOf, List.mem_cons]
      constructor
      · rintro (rfl | ⟨a, b⟩)
        · exact ⟨.inl rfl, memN_false.1 hb⟩
        · exact ⟨.inr a, b⟩
      · rintro ⟨rfl | a, b⟩
        · exact .inl rfl
        · exact .inr ⟨a, b⟩
theorem allBefore_spec {n : Nat} : ∀ {es : List (AV × AV × Nat)}, allBefore n es = true → ∀ x ∈ es, x.2.2 < n
  | [], _, x, hx => by cases hx
  | e :: r, h, x, hx => by
    simp only [allBefore] at h
    split at h
    · rename_i hb
      rcases List.mem_cons.1 hx with rfl | hx
      · exact lt_of_blt hb
      · exact allBefore_spec h x hx
    · cases h
theorem someBefore_spec {n : Nat} : ∀ {es : List (AV × AV × Nat)}, someBefore n es = true → ∃ x ∈ es, x.2.2 < n
  | [], h => by cases h
  | e :: r, h => by
    simp only [someBefore] at h
    split at h
    · rename_i hb; exact ⟨e, by simp, lt_of_blt hb⟩
    · obtain ⟨x, h1, h2⟩ := someBefore_spec h; exact ⟨x, by simp [h1], h2⟩

theorem run_mapNext {n : Nat} (hn : 0 < n) : ∃ k w2, (choose (.mapNext n)).run P w = .ok k w2 ∧ k < n ∧ (w2 = w ∨ w2 = w.drew) := by
  by_cases h1 : n ≤ 1
  · exact ⟨0, w, by simp [choose, Sem.run, Question.forced, h1], hn, .inl rfl⟩
  · exact ⟨(Question.mapNext n).cut (w.tape w.drawn (.mapNext n)), w.drew, by simp [choose, Sem.run, Question.forced, h1], Nat.mod_lt _ hn, .inr rfl⟩

theorem next_ok (R : Rel P ft B w0 ρ h nx w) {v : AV} {l : List (AV × T AO)} (hq : nextOuts v h = some l) {x : Value} (hx : VRel ρ v x) (t : TypeId) :
    ∃ v' h' w' u, (v', h') ∈ l ∧ (Instr.next x false t).run P w = .ok u w' ∧ VRel ρ v' u ∧ Rel P ft B w0 ρ h' nx w' := by
  unfold nextOuts at hq
  split at hq
  · rename_i id
    obtain ⟨g, hρ, rfl⟩ := hx
    split at hq
    · -- over no map
      rename_i a b c hg
      cases hq
      obtain ⟨⟨hd0, m', hb, rfl⟩, _⟩ := R.at hg hρ
      have hgo : (getObj g.b).run P w = .ok (.mapIter none a b.reverse.toArray c) w := by simp [getObj, Sem.run, hb]
      refine ⟨_, _, w, .tuple #[.bool false], List.mem_singleton.2 rfl, ?_, ⟨[.bool false], rfl, _, _, rfl, rfl, rfl⟩, R⟩
      simp only [Instr.next, hd0, Nat.add_zero, Sem.run_bind, hgo, Result.andThen_ok]
      rfl
    · rename_i m since seen st hg
      split at hq
      · rename_i es c sh hgm
        split at hq
        · rename_i hall
          split at hq
          · rename_i hkn
            obtain ⟨⟨hd0, m', hb, gm, hρm, rfl⟩, hB⟩ := R.at hg hρ
            have hB : B ≤ g.b := by
              rcases hB with hB | hB
              · simp [isRo] at hB
              · exact hB
            obtain ⟨ents, ls, hbm, hp, he, hd, hds, hlt, hsh⟩ := R.map hgm hρm
            have hgo : (getObj g.b).run P w = .ok (.mapIter (some gm.b) since seen.reverse.toArray st) w := by simp [getObj, Sem.run, hb]
            have hgo2 : (getObj gm.b).run P w = .ok (.map ents c) w := by simp [getObj, Sem.run, hbm]
            obtain ⟨m1, m2⟩ := he.mem
            have n1 : ∀ e ∈ ents, ∃ x ∈ es, ERel ρ x e := fun e hm => m1 e (hp.mem_iff.1 (by simpa using hm))
            have n2 : ∀ x ∈ es, ∃ e ∈ ents, ERel ρ x e := fun x hm => by
              obtain ⟨e, h1, h2⟩ := m2 x hm
              exact ⟨e, by simpa using hp.mem_iff.2 h1, h2⟩
            have hcond : (!(seen.reverse.toArray).isEmpty && !ents.isEmpty && ents.all (fun e => decide (e.born ≥ st))) = false := by
              unfold nextKnown at hkn
              split at hkn
              · simp
              · split at hkn
                · have : ents = #[] := by
                    apply Classical.byContradiction
                    intro hne
                    obtain ⟨e, he2⟩ := Array.exists_mem_of_ne_empty ents hne
                    obtain ⟨x, hx, _⟩ := n1 e he2
                    cases hx
                  simp [this]
                · obtain ⟨x, hx1, hx2⟩ := someBefore_spec hkn
                  obtain ⟨e, he1, he2⟩ := n2 x hx1
                  have : ents.all (fun e => decide (e.born ≥ st)) = false := by
                    cases hc : ents.all (fun e => decide (e.born ≥ st)) with
                    | false => rfl
                    | true =>
                      have := Array.all_eq_true_iff_forall_mem.1 hc e he1
                      have := of_decide_eq_true this
                      rw [he2.2.2] at this
                      omega
                  rw [this, Bool.and_false]
            have hleft : ∀ e, e ∈ ents.filter (fun e => !(seen.reverse.toArray).contains e.born) ↔ e ∈ ents ∧ e.born ∉ seen := by
              intro e; simp [Array.mem_filter]
            generalize hL : ents.filter (fun e => !(seen.reverse.toArray).contains e.born) = left at hleft
            have hbefore := allBefore_spec hall
            have hlb : ∀ e ∈ left, e.born < since ∧ ∃ x ∈ leftOf seen es, ERel ρ x e := by
              intro e hm
              obtain ⟨h1, h2⟩ := (hleft e).1 hm
              obtain ⟨x, hx1, hx2⟩ := n1 e h1
              have hx3 : x ∈ leftOf seen es := mem_leftOf.2 ⟨hx1, by rw [← hx2.2.2]; exact h2⟩
              exact ⟨by rw [hx2.2.2]; exact hbefore x hx3, x, hx3, hx2⟩
            have hnew : left.filter (fun e => decide (e.born ≥ since)) = #[] := by
              rw [Array.filter_eq_empty_iff]
              intro e hm hc
              have := of_decide_eq_true hc
              have := (hlb e hm).1
              omega
            have hold : left.filter (fun e => decide (e.born < since)) = left := by
              rw [Array.filter_eq_self]
              intro e hm
              exact decide_eq_true (hlb e hm).1
            have hrun : (Instr.next (.pointer (some ⟨g.b, g.d + 0, none⟩)) false t).run P w =
                ((choose (.mapNext ((if left.isEmpty then #[none] else #[]) ++ (left ++ #[]).map some).size) : Sem Nat).run P w).andThen fun k w2 =>
                  ((match ((if left.isEmpty then #[none] else #[]) ++ (left ++ #[]).map some)[k]? with
                    | some (some e) => (do setObj g.b (.mapIter (some gm.b) since ((seen.reverse.toArray).push e.born) c); pure (.tuple #[.bool true, e.key, e.val]))
                    | some none => pure (.tuple #[.bool false])
                    | none => stuck "Next: no such candidate") : Sem Value).run P w2 := by
              simp only [Instr.next, hd0, Nat.add_zero, Sem.run_bind, hgo, hgo2, Result.andThen_ok]
              rw [if_neg (by rw [hcond]; simp)]
              simp only [Sem.run_bind, Sem.run_pure, Result.andThen_ok, hL, hnew, hold]
              rfl
            split at hq
            · rename_i hnil
              cases hq
              have hle : left = #[] := by
                apply Classical.byContradiction
                intro hne
                obtain ⟨e, he2⟩ := Array.exists_mem_of_ne_empty left hne
                obtain ⟨_, x, hx, _⟩ := hlb e he2
                rw [hnil] at hx
                cases hx
              subst hle
              refine ⟨_, _, w, .tuple #[.bool false], List.mem_singleton.2 rfl, ?_, ⟨[.bool false], rfl, _, _, rfl, rfl, rfl⟩, R⟩
              rw [hrun]
              simp [choose, Sem.run, Question.forced, Result.andThen]
            · rename_i hne
              cases hq
              have hle : left ≠ #[] := by
                intro h0
                cases hll : leftOf seen es with
                | nil => exact hne hll
                | cons x r =>
                  obtain ⟨h1, h2⟩ := mem_leftOf.1 (show x ∈ leftOf seen es by rw [hll]; simp)
                  obtain ⟨e, he1, he2⟩ := n2 x h1
                  have : e ∈ left := (hleft e).2 ⟨he1, by rw [he2.2.2]; exact h2⟩
                  rw [h0] at this
                  simp at this
              have hie : left.isEmpty = false := by
                cases hc : left.isEmpty with
                | false => rfl
                | true => exact absurd (Array.isEmpty_iff.1 hc) hle
              have hcand : ((if left.isEmpty then #[none] else #[]) ++ (left ++ #[]).map some) = left.map some := by
                rw [hie]; simp
              rw [hcand] at hrun
              have hpos : 0 < (left.map some).size := by
                rw [Array.size_map]
                exact Array.size_pos_iff.2 hle
              obtain ⟨k, w2, hk1, hk2, hk3⟩ := run_mapNext (P := P) (w := w) hpos
              rw [Array.size_map] at hk2
              rw [hk1, Result.andThen_ok] at hrun
              have hget : (left.map some)[k]? = some (some left[k]) := by simp [hk2]
              rw [hget] at hrun
              simp only at hrun
              obtain ⟨_, x, hx1, hx2⟩ := hlb left[k] (Array.getElem_mem hk2)
              have R2 : Rel P ft B w0 ρ h nx w2 := by
                rcases hk3 with rfl | rfl
                · exact R
                · exact R.drew
              have hb2 : w2.heap[g.b]? = some (.mapIter (some gm.b) since seen.reverse.toArray st) := by
                rcases hk3 with rfl | rfl
                · exact hb
                · exact hb
              have hbl : g.b < w2.heap.size := (R2.dom _ _ hρ).2
              refine ⟨_, _, { w2 with heap := w2.heap.setIfInBounds g.b (.mapIter (some gm.b) since ((seen.reverse.toArray).push left[k].born) c) }, .tuple #[.bool true, left[k].key, left[k].val], List.mem_map.2 ⟨x, hx1, rfl⟩, ?_, ?_, ?_⟩
              · rw [hrun]
                simp only [Sem.run_bind, run_setObj hb2 (fun _ _ _ h => by cases h), Result.andThen_ok, Sem.run_pure]
              · exact ⟨[.bool true, left[k].key, left[k].val], rfl, _, _, rfl, rfl, _, _, rfl, hx2.1, _, _, rfl, hx2.2.1, rfl⟩
              · refine R2.upd hg hρ rfl (Diff.setObj _ hB hbl) ⟨hd0, some gm.b, ?_, gm, hρm, rfl⟩
                rw [setObj_self _ _ hbl]
                simp [hx2.2.2]
          · cases hq
        · cases hq
      · cases hq
    · cases hq
  · cases hq

theorem FW.finish_some {a : AF} {b : Frame} {act : Act} {todo : List Item} (H : FW P ft ρ h a b act todo) (v : AV) : ∃ a', finish a v = some a' := by
  cases H with
  | opsw _ _ _ _ h5 => exact ⟨_, by unfold finish; rw [h5]⟩
  | drw _ _ h3 => exact ⟨_, by unfold finish; rw [h3]⟩
  | rf _ _ _ _ h5 => exact ⟨_, by unfold finish; rw [h5]⟩

theorem nxOk {big : Big} : NxOk P ft big B w0 cs0 rf := by
  intro ρ h nx w fr b act ops i rest k' o d x cs ms n trk tm Δ env hW ho hret K h1 h2 R hx hr
  simp only [regFin] at hr
  split at hr
  · rename_i _ xo hop hgd
    split at hr
    · rename_i d' x' hd hxx
      cases hr
      simp only [doFin]
      cases hv : evalX tm env x with
      | none => trivial
      | some v =>
        simp only
        cases hl : nextOuts v h with
        | none => trivial
        | some l =>
          simp only
          have hX : VRel ρ v (act.eval xo) := hx xo (fun t e => by
            subst e
            refine mem_looks.2 (.inl ?_)
            rw [hop]
            simp [Op.operands]) x v hxx hv
          obtain ⟨v', h', w', u, hm, hrun, hu, R'⟩ := next_ok R hl hX o.type
          obtain ⟨a', ha'⟩ := (hW h').finish_some v'
          have hw : Region.wanted o (yielded ops act.tmps) = true := by simp [Region.wanted, hgd]
          have hstep := step_value (P := P) (b := b) (a := act) (k := k') (cs := ms ++ cs0) (rest := rest) ho hw (fun c e => by rw [hop] at e; cases e) (w := w) (w' := w') (v := u) (by
            simp only [execOp, hop, Sem.run_bind, hrun, Result.andThen_ok, Sem.run_pure])
          have C := come_finish (hW h') hret K h1 h2 (Rho.le.refl ρ) R' hu (cs0 := cs0) (nx := nx)
          rw [ha'] at C
          obtain ⟨ρ2, m2, c1, c2, c3⟩ := C
          refine ⟨_, List.mem_filterMap.2 ⟨(v', h'), hm, by simp only [ha']⟩, ρ2, m2, c1, (Steps.one hstep).trans ?_, c3⟩
          rw [finish_put ho]
          exact c2
    · cases hr
  · cases hr
end Go.Md
end
