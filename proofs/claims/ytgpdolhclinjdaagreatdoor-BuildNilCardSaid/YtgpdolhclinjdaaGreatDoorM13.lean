import Derived.Test.YtgpdolhclinjdaaGreatDoorM12
set_option linter.unusedVariables false
set_option linter.unusedSimpArgs false
set_option linter.unusedSectionVars false
section
/- RANGES OVER FUNCTIONS, A ROUND'S BEGIN, RETURNS. No condition. -/
namespace Go.Md
variable {P : Program} {ft : FT} {B : Nat} {w0 w w' : World} {ρ ρ' : Rho} {h h' : T AO} {nx nx' : Nat} {cs0 : List Frame} {rf : Nat}

theorem CodeOk.n (hft : CodeOk P ft) {f : Nat} {df : DF} (hdf : ft.get f = some df) : ∃ fn, P.funcs[f]? = some fn ∧ df.n = fn.ntmps ∧ regRes P df.trk fn.results.toList = some df.res := by
  obtain ⟨fn, hfn, hreg⟩ := hft f df hdf
  refine ⟨fn, hfn, ?_⟩
  unfold regFn at hreg
  split at hreg
  · cases hreg
  · split at hreg
    · split at hreg
      · rename_i hb hr
        simp only [Option.some.injEq] at hreg
        constructor
        · rw [← hreg]
        · rw [hr, ← hreg]
      · cases hreg
    · cases hreg

/-! steps of the model -/
section steps
variable {b : Frame} {a : Act} {k : List Item} {cs : List Frame}
theorem finish_rf (l : Nat) (v : Value) : (b.atR a (.inRangeFunc l :: k)).finish v = b.atR a (.endRangeFunc l :: k) := by
  simp [Frame.finish, Frame.atR]
theorem stepF_end {l : Nat} {jump : Option Code} {w' : World} (h : (Instr.endLoop l).run P w = .ok jump w') :
    Go.step P (lone (b.atR a (.endRangeFunc l :: k)) cs w) = .next (lone (b.atR a ((jump.map Item.code).toList ++ k)) cs w') :=
  step_lone_go (by simp [stepG, stepG.exec, Frame.atR, Sem.runT_eq, h, GStep.bare_after])
theorem stepF_call {g : Operand} {ps : Array Tmp} {assign body : Code} {l : Nat} {mark : List Deferred} {w₁ w₂ : World} {nxt : Next}
    (he : (Instr.enterLoop b.fn a.tmps ps assign body b.roundOf).run P w = .ok (l, mark) w₁)
    (hr : (do let d ← Deferred.ofValue (a.eval g) #[.func (.yield l) #[] #[]]; invoke d.target d.args : Sem Next).run P w₁ = .ok nxt w₂) :
    (∀ f args, nxt = .enter f args → Go.step P (lone (b.atR a (.code (.rangeFunc g ps assign body) :: k)) cs w) =
      .next (lone (Frame.enter P f args .normal) (b.atR { a with defers := mark ++ a.defers } (.inRangeFunc l :: k) :: cs) w₂)) ∧
    (∀ l2 f tmps asg bd, nxt = .round l2 f tmps asg bd → Go.step P (lone (b.atR a (.code (.rangeFunc g ps assign body) :: k)) cs w) =
      .next (lone (Frame.round l2 f tmps asg bd .normal) (b.atR { a with defers := mark ++ a.defers } (.inRangeFunc l :: k) :: cs) w₂)) := by
  simp only [Sem.run_bind] at hr
  cases hd : (Deferred.ofValue (a.eval g) #[.func (.yield l) #[] #[]] : Sem Deferred).run P w₁ with
  | halt hh ww => rw [hd] at hr; cases hr
  | ok d w1' =>
    rw [hd, Result.andThen_ok] at hr
    have hev := Frame.eval_atR b { a with defers := mark ++ a.defers } (.inRangeFunc l :: k)
    simp only [Frame.atR] at hev
    have hres' : Sem.run P (resolve ({ tmps := a.tmps, defers := mark ++ a.defers } : Act).eval { callee := .value g, args := #[.const (.func (.yield l) #[] #[])], argTypes := #[] } 0) w₁ = .ok d w1' := by
      have e1 : ∀ x, ({ tmps := a.tmps, defers := mark ++ a.defers } : Act).eval x = a.eval x := fun x => by cases x <;> rfl
      have e2 : (#[.const (.func (.yield l) #[] #[])] : Array Operand).map ({ tmps := a.tmps, defers := mark ++ a.defers } : Act).eval = #[.func (.yield l) #[] #[]] := by simp [(evalFn _).1]
      simp only [resolve, e1, e2]
      exact hd
    constructor
    · rintro f args rfl
      exact step_lone_go (by simp [stepG, stepG.exec, Frame.atR, Sem.runT_eq, he, GStep.bare_after, stepG.apply, hev, Sem.run_bind, hres', hr, Result.andThen])
    · rintro l2 f tmps asg bd rfl
      exact step_lone_go (by simp [stepG, stepG.exec, Frame.atR, Sem.runT_eq, he, GStep.bare_after, stepG.apply, hev, Sem.run_bind, hres', hr, Result.andThen])
theorem stepF_collected {fr : Frame} {w' : World} {r : Nat} {ds calls : List Deferred}
    (hm : fr.mode = .returning) (hd : fr.defers = { target := .collected r, args := #[] } :: ds) (hk : (Instr.takeDeferred r).run P w = .ok calls w') :
    Go.step P (lone fr cs w) = .next (lone { fr with defers := calls ++ ds } cs w') := by
  refine step_lone_go ?_
  simp [stepG, unwind, hm, hd, Sem.runT_eq, hk, GStep.bare_after]
end steps

theorem run_enter_outer (fn : FuncId) (tmps : Array Value) (ps : Array Tmp) (assign body : Code) :
    (Instr.enterLoop fn tmps ps assign body none).run P w =
      .ok (w.heap.size + 1, [{ target := .collected w.heap.size, args := #[] }])
        ((w.alloc (.deferred (some []))).alloc (.loop { state := .ready, pending := none, fn, tmps, params := ps, assign, body, defers := w.heap.size })) := by
  unfold Instr.enterLoop
  simp only [Sem.run_bind, run_newObj_alloc, Result.andThen, Sem.run_pure, World.size_alloc]
theorem run_enter_inner {l₀ : Nat} {r₀ : Loop} (hl : w.heap[l₀]? = some (.loop r₀)) (fn : FuncId) (tmps : Array Value) (ps : Array Tmp) (assign body : Code) :
    (Instr.enterLoop fn tmps ps assign body (some l₀)).run P w =
      .ok (w.heap.size, []) (w.alloc (.loop { state := .ready, pending := none, fn, tmps, params := ps, assign, body, defers := r₀.defers })) := by
  unfold Instr.enterLoop
  simp only [Sem.run_bind, run_getLoop hl, run_newObj_alloc, Result.andThen, Sem.run_pure]

theorem allTrk_lt {n trk : Nat} : ∀ {l : List Nat}, allTrk n trk l = true → ∀ t ∈ l, t < n
  | [], _, t, ht => by cases ht
  | x :: r, h, t, ht => by
    simp only [allTrk, Bool.and_eq_true, decide_eq_true_eq] at h
    rcases List.mem_cons.1 ht with rfl | ht
    · exact h.1.2
    · exact allTrk_lt h.2 t ht

/-- a loop's object, new -/
theorem newLoop_rel (hft : CodeOk P ft) {fr : AF} {df : DF} (hdf : ft.get fr.fn = some df) {tmps : Array Value} (hsz : df.n ≤ tmps.size) (htm : TmAll ρ df.trk fr.tm tmps) {ps : Array Tmp} {asg body : DC} {asg' body' : Code}
    (h1 : regCode P df.n df.trk asg' asg = some asg) (h2 : regCode P df.n df.trk body' body = some body) (h3 : allTrk df.n df.trk ps.toList = true) {g : Gh} {D dfr : Nat} (hd : ∃ gd, ρ dfr = some gd ∧ D = gd.b)
    (hw : w.heap[g.b]? = some (.loop { state := .ready, pending := none, fn := fr.fn, tmps, params := ps, assign := asg', body := body', defers := D })) :
    ORel P ft ρ w g (.loop fr.fn fr.tm ps.toList asg body 0 none dfr) := by
  obtain ⟨fn, hfn, hn, _⟩ := hft.n hdf
  refine ⟨_, hw, rfl, by decide, trivial, rfl, ⟨df, hdf, htm⟩, rfl, ⟨df, fn, hdf, hfn, by rw [← hn]; exact h1⟩, ⟨df, fn, hdf, hfn, by rw [← hn]; exact h2⟩, hd, fun fnn hf => ?_, fun df2 hd2 t ht => ?_⟩
  · rw [hfn] at hf; cases hf; rw [← hn]; exact hsz
  · rw [hdf] at hd2; cases hd2; exact allTrk_lt h3 t ht

theorem stepRf_ok (hft : CodeOk P ft) {big : Big} (hbig : BigOk P ft B w0 big) {fr : AF} {b : Frame} {act : Act} {k : List AI} {k' : List Item} {c : Code} {f : DX} {ps : List Nat} {asg body : DC} {df : DF} {cs : List AF} {ms : List Frame}
    (hc : regCode P df.n df.trk c (.rf f ps asg body) = some (.rf f ps asg body)) (fb : FB ρ fr b act) (hdf : ft.get fr.fn = some df) (hsz : df.n ≤ act.tmps.size) (htm : TmAll ρ df.trk fr.tm act.tmps) (ht : TRel P ρ df.n df.trk k k') (hret : fr.ret = false)
    (K : KR P ft ρ cs ms) (h1 : rootRnd fr cs = none) (h2 : rootFn fr cs = rf) (R : Rel P ft B w0 ρ h nx w) :
    Come P ft B w0 cs0 rf ρ (lone (b.atR act (.code c :: k')) (ms ++ cs0) w) (stepRf ft big fr cs h nx k f ps asg body) := by
  cases c <;> (try simp only [regCode] at hc) <;> try (cases hc; done)
  rename_i g ps' asg' body'
  split at hc
  · rename_i x' a2 b2 hx ha hb
    split at hc
    · rename_i hps
      simp only [Option.some.injEq, DC.rf.injEq] at hc
      obtain ⟨rfl, rfl, rfl, rfl⟩ := hc
      unfold stepRf
      cases hv : evalX fr.tm [] x' with
      | none => trivial
      | some fv =>
        simp only
        have hX : VRel ρ fv (act.eval g) := (htm.env hsz).xok R g x' fv hx hv
        cases hrnd : fr.rnd with
        | none =>
          simp only
          have hb0 : b.roundOf = none := by
            have := fb.rnd
            rw [hrnd] at this
            cases hb : b.roundOf with
            | none => rfl
            | some x => rw [hb] at this; exact this.elim
          have R1 := R.new (obj := .deferred (some [])) (o := .dfr) (e := 0) (sz := 0) (heap_alloc_new w _)
          have hle1 := R.le_new ⟨w.heap.size, 0, 0, 0⟩
          have hle2 := R1.le_new ⟨(w.alloc (.deferred (some []))).heap.size, 0, 0, 0⟩
          have hρd : (ρ.upd nx ⟨w.heap.size, 0, 0, 0⟩) nx = some ⟨w.heap.size, 0, 0, 0⟩ := Rho.upd_self _ _
          have R2 := R1.new (obj := .loop { state := .ready, pending := none, fn := fr.fn, tmps := act.tmps, params := ps', assign := asg', body := body', defers := w.heap.size }) (o := .loop fr.fn fr.tm ps'.toList a2 b2 0 none nx) (e := 0) (sz := 0)
            (newLoop_rel hft hdf hsz (htm.mono (hle1.trans hle2)) ha hb hps ⟨_, hle2 _ _ hρd, rfl⟩ (heap_alloc_new _ _))
          have hle := hle1.trans hle2
          have he := run_enter_outer (P := P) (w := w) b.fn act.tmps ps' asg' body'
          rw [fb.fn] at he
          have hsz1 : (w.alloc (.deferred (some []))).heap.size = w.heap.size + 1 := World.size_alloc _ _
          refine Come.le hle (callVal_ok (fr := { fn := fr.fn, tm := fr.tm, todo := .rf (Nat.add nx 1) :: k, rnd := none, dfs := nx :: fr.dfs, ret := fr.ret }) (b := b) (act := { act with defers := [{ target := .collected w.heap.size, args := #[] }] ++ act.defers }) (todo := .inRangeFunc (w.heap.size + 1) :: k') hft hbig (fun hh => ?_) hret (K.mono hle) ?_ ?_ R2 (hX.mono hle) (args := [.fy (Nat.add nx 1)]) (us := [.func (.yield (w.heap.size + 1)) #[] #[]]) ?_ ?_ ?_)
          · have hρl := Rho.upd_self (ρ := ρ.upd nx ⟨w.heap.size, 0, 0, 0⟩) (nx + 1) ⟨(w.alloc (.deferred (some []))).heap.size, 0, 0, 0⟩
            have := FW.rf (P := P) (ft := ft) (h := hh) (a := { fn := fr.fn, tm := fr.tm, todo := .rf (Nat.add nx 1) :: k, rnd := none, dfs := nx :: fr.dfs, ret := fr.ret }) (b := b) (act := { act with defers := [{ target := .collected w.heap.size, args := #[] }] ++ act.defers }) (df := df) (l := nx + 1) (k := k) (k' := k') (ρ := (ρ.upd nx ⟨w.heap.size, 0, 0, 0⟩).upd (nx + 1) ⟨(w.alloc (.deferred (some []))).heap.size, 0, 0, 0⟩)
              ⟨fb.fn, fb.kind, (hrnd ▸ fb.rnd : RndRel ρ none b.roundOf).mono hle, ⟨_, hle2 _ _ hρd, rfl⟩, fb.dfs.mono hle⟩ hdf hsz (htm.mono hle) rfl hρl (ht.mono hle)
            rw [hsz1] at this ⊢
            exact this
          · exact Eq.trans (rootRnd_eq (a := fr) hrnd.symm cs) h1
          · exact Eq.trans (rootFn_eq (a := fr) (by rfl) cs) h2
          · refine ⟨_, _, rfl, ⟨_, Rho.upd_self _ _, ?_⟩, rfl⟩
            rw [hsz1]
          · intro f2 us2 hrun
            refine .one ((stepF_call (by rw [fb.fn, hb0]; exact he) hrun).1 f2 us2 rfl)
          · intro l f2 tmps asg body hrun
            refine .one ((stepF_call (by rw [fb.fn, hb0]; exact he) hrun).2 _ _ _ _ _ rfl)
        | some l0 =>
          simp only
          cases hg0 : h.get l0 with
          | none => trivial
          | some o =>
            cases o <;> try trivial
            rename_i fn0 tm0 ps0 asg0 body0 st0 pd0 d0
            simp only
            have hb0 := fb.rnd
            rw [hrnd] at hb0
            cases hbr : b.roundOf with
            | none => rw [hbr] at hb0; exact hb0.elim
            | some gb =>
              rw [hbr] at hb0
              obtain ⟨g0, hρ0, rfl⟩ := hb0
              obtain ⟨_, r0, hr0, _, _, _, _, _, _, _, _, ⟨gd, hρd, hdd⟩, _⟩ := R.loop hg0 hρ0
              have hle := R.le_new ⟨w.heap.size, 0, 0, 0⟩
              have R2 := R.new (obj := .loop { state := .ready, pending := none, fn := fr.fn, tmps := act.tmps, params := ps', assign := asg', body := body', defers := r0.defers }) (o := .loop fr.fn fr.tm ps'.toList a2 b2 0 none d0) (e := 0) (sz := 0)
                (newLoop_rel hft hdf hsz (htm.mono hle) ha hb hps ⟨gd, hle _ _ hρd, hdd⟩ (heap_alloc_new _ _))
              have he := run_enter_inner (P := P) (w := w) hr0 b.fn act.tmps ps' asg' body'
              rw [fb.fn] at he
              refine Come.le hle (callVal_ok (fr := { fn := fr.fn, tm := fr.tm, todo := .rf nx :: k, rnd := some l0, dfs := fr.dfs, ret := fr.ret }) (b := b) (act := { act with defers := [] ++ act.defers }) (todo := .inRangeFunc w.heap.size :: k') hft hbig (fun hh => ?_) hret (K.mono hle) ?_ ?_ R2 (hX.mono hle) (args := [.fy nx]) (us := [.func (.yield w.heap.size) #[] #[]]) ?_ ?_ ?_)
              · exact FW.rf (P := P) (ft := ft) (h := hh) (a := { fn := fr.fn, tm := fr.tm, todo := .rf nx :: k, rnd := some l0, dfs := fr.dfs, ret := fr.ret }) (b := b) (act := { act with defers := [] ++ act.defers }) (df := df) (l := nx) (k := k) (k' := k') (g := ⟨w.heap.size, 0, 0, 0⟩)
                  ⟨fb.fn, fb.kind, (hrnd ▸ fb.rnd : RndRel ρ (some l0) b.roundOf).mono hle, fb.dfs.mono hle⟩ hdf hsz (htm.mono hle) rfl (Rho.upd_self _ _) (ht.mono hle)
              · exact Eq.trans (rootRnd_eq (a := fr) hrnd.symm cs) h1
              · exact Eq.trans (rootFn_eq (a := fr) (by rfl) cs) h2
              · exact ⟨_, _, rfl, ⟨_, Rho.upd_self _ _, rfl⟩, rfl⟩
              · intro f2 us2 hrun
                refine .one ((stepF_call (by rw [fb.fn, hbr]; exact he) hrun).1 f2 us2 rfl)
              · intro l f2 tmps asg body hrun
                refine .one ((stepF_call (by rw [fb.fn, hbr]; exact he) hrun).2 _ _ _ _ _ rfl)
    · cases hc
  · cases hc

/-- a round's begin -/
theorem stepBr_ok {fr : AF} {b : Frame} {act : Act} {k : List AI} {k' : List Item} {df : DF} {cs : List AF} {ms : List Frame} (fb : FB ρ fr b act) (hdf : ft.get fr.fn = some df) (hsz : df.n ≤ act.tmps.size) (htm : TmAll ρ df.trk fr.tm act.tmps) (ht : TRel P ρ df.n df.trk k k') (hret : fr.ret = false)
    (K : KR P ft ρ cs ms) (h1 : rootRnd fr cs = none) (h2 : rootFn fr cs = rf) (R : Rel P ft B w0 ρ h nx w) :
    Come P ft B w0 cs0 rf ρ (lone (b.atR act (.beginRound :: k')) (ms ++ cs0) w) (match fr.rnd with
      | some l => (match h.get l with
        | some (.loop fn tm ps asg body 0 pd d) => .go { fr := { fr with todo := k }, cs, h := h.set l (.loop fn tm ps asg body 1 pd d), nx }
        | _ => .bad)
      | none => .bad) := by
  split
  · rename_i l hrnd
    split
    · rename_i fn tm ps asg body pd d hg
      have hb0 := fb.rnd
      rw [hrnd] at hb0
      cases hbr : b.roundOf with
      | none => rw [hbr] at hb0; exact hb0.elim
      | some gb =>
        rw [hbr] at hb0
        obtain ⟨g, hρ, rfl⟩ := hb0
        obtain ⟨r, hb, hst, hp, hset⟩ := setLoop_ok R hg hρ
        obtain ⟨hrun, R'⟩ := hset { r with state := stOf 1 } 1 pd rfl (by decide) hp
        have hbegin : (Instr.beginRound g.b).run P w = .ok () { w with heap := w.heap.setIfInBounds g.b (.loop { r with state := stOf 1 }) } := by
          have e : r.state = .ready := hst
          have hrun' : (Go.setObj g.b (.loop { r with state := .busy })).run P w = _ := hrun
          simp only [Instr.beginRound, Sem.run_bind, run_getLoop hb, Result.andThen_ok, hrun', e, Sem.run_pure]
        exact come_todo (.one (stepR_beginRound hbr hbegin)) R' fb hdf hsz htm ht hret K h1 h2
    · trivial
  · trivial

/-- a range's end -/
theorem stepEndrf_ok (hft : CodeOk P ft) {fr : AF} {b : Frame} {act : Act} {k : List AI} {k' : List Item} {df : DF} {cs : List AF} {ms : List Frame} {l : Nat} {g : Gh} (hρ : ρ l = some g) (fb : FB ρ fr b act) (hdf : ft.get fr.fn = some df) (hsz : df.n ≤ act.tmps.size) (htm : TmAll ρ df.trk fr.tm act.tmps) (ht : TRel P ρ df.n df.trk k k') (hret : fr.ret = false)
    (K : KR P ft ρ cs ms) (h1 : rootRnd fr cs = none) (h2 : rootFn fr cs = rf) (R : Rel P ft B w0 ρ h nx w) :
    Come P ft B w0 cs0 rf ρ (lone (b.atR act (.endRangeFunc g.b :: k')) (ms ++ cs0) w) (match h.get l with
      | some (.loop fn tm ps asg body st pd d) => (match Nat.beq st 1 with
        | true => .bad
        | false => (match Nat.beq fn fr.fn with
          | true => .go { fr := { fr with todo := (match pd with | some c => .c c :: k | none => k) }, cs, h := h.set l (.loop fn tm ps asg body 3 pd d), nx }
          | false => .bad))
      | _ => .bad) := by
  cases hg : h.get l with
  | none => trivial
  | some o =>
    cases o <;> try trivial
    rename_i fn tm ps asg body st pd d
    simp only
    split
    · trivial
    · rename_i hst1
      split
      · rename_i hfn
        have hfn := eq_of_beq' hfn
        subst hfn
        obtain ⟨_, _, _, _, hst4, _⟩ := R.loop hg hρ
        obtain ⟨r, hb, hst, hp, hset⟩ := setLoop_ok R hg hρ
        obtain ⟨hrun, R'⟩ := hset { r with state := stOf 3 } 3 pd rfl (by decide) hp
        have hne : (r.state == .busy) = false := by
          rw [hst]
          have := ne_of_beq' hst1
          match st, this, hst4 with
          | 0, _, _ => rfl
          | 1, h, _ => exact absurd rfl h
          | 2, _, _ => rfl
          | 3, _, _ => rfl
        have hend : (Instr.endLoop g.b).run P w = .ok r.pending { w with heap := w.heap.setIfInBounds g.b (.loop { r with state := stOf 3 }) } := by
          have hrun' : (Go.setObj g.b (.loop { r with state := .exhausted })).run P w = _ := hrun
          simp only [Instr.endLoop, Sem.run_bind, run_getLoop hb, Result.andThen_ok]
          rw [if_neg (by rw [hne]; simp)]
          simp only [Sem.run_bind, Sem.run_pure, Result.andThen_ok, hrun']
        refine come_todo (.one (stepF_end hend)) R' fb hdf hsz htm ?_ hret K h1 h2
        obtain ⟨fnn, hfnn, hn, _⟩ := hft.n hdf
        cases pd with
        | none =>
          cases hrp : r.pending with
          | none => exact ht
          | some c => rw [hrp] at hp; exact hp.elim
        | some dc =>
          cases hrp : r.pending with
          | none => rw [hrp] at hp; exact hp.elim
          | some c =>
            rw [hrp] at hp
            obtain ⟨df2, fn2, e1, e2, e3⟩ := hp
            rw [hdf] at e1; cases e1
            rw [hfnn] at e2; cases e2
            rw [← hn] at e3
            exact .cons (.c e3) ht
      · trivial

/-- an object that is forgotten: what its block becomes is no matter -/
theorem Rel.gone (R : Rel P ft B w0 ρ h nx w) {id : Nat} {o : AO} (hg : h.get id = some o) {g : Gh} (hρ : ρ id = some g) (d : Diff B g.b w w') : Rel P ft B w0 ρ (h.del id) nx w' := by
  refine ⟨fun i oi hi => ?_, (R.del id).inj, fun i gi hi => ⟨(R.dom i gi hi).1, Nat.lt_of_lt_of_le (R.dom i gi hi).2 d.size⟩, R.glob, Nat.le_trans R.base d.size, R.below.trans (d.below R.base)⟩
  rw [T.get_del] at hi
  split at hi
  · cases hi
  · rename_i e
    obtain ⟨gi, h1, h2, h3⟩ := R.obj i oi hi
    refine ⟨gi, h1, ORel.mono (Rho.le.refl ρ) (d.other gi.b ?_ (R.dom i gi h1).2) h2, h3⟩
    intro e2
    exact e (R.inj i id oi o gi g hi hg h1 hρ e2).symm

def resOf (tmps : Array Value) (r : ResultVar) : Sem Value := match r with
  | .tmp t => pure (tmps.getD t undef)
  | .cell a t => do loadVar t (← asAddr (tmps.getD a undef))
theorem results_def (fn : Func) (tmps : Array Value) : Go.results fn tmps = (do let vs ← fn.results.mapM (resOf tmps); pure (if h : vs.size = 1 then vs[0] else .tuple vs) : Sem Value) := by
  have e : resOf tmps = (fun r => match r with
    | .tmp t => pure (tmps.getD t undef)
    | .cell a t => do loadVar t (← asAddr (tmps.getD a undef))) := by funext r; cases r <;> rfl
  rw [e]; rfl
theorem resOf_n (R : Rel P ft B w0 ρ h nx w) {trk : Nat} {tm : T AV} {tmps : Array Value} (H : TmAll ρ trk tm tmps) {a t n id off : Nat} (htb : trk.testBit a = true) (hag : isAgg? P t = true) (hn : szOf P t = some n) (hta : tm.get a = some (.ptr id off)) {cl : List AV} (hcl : loadCells h id off n = some cl) :
    ∃ u, (resOf tmps (.cell a t)).run P w = .ok u w ∧ VRel ρ (.agg cl) u := by
  obtain ⟨g, hρ, hp⟩ := H a _ htb hta
  obtain ⟨cs, hrl, hlen, hc⟩ := loadCells_ok R hcl hρ
  have := run_loadCells_at (P := P) hc
  rw [hlen] at this
  refine ⟨.agg cs.toArray, ?_, cs, rfl, hrl⟩
  simp only [resOf, hp, asAddr, Sem.run_bind, Sem.run_pure, Result.andThen_ok, loadVar, run_agg_t hag, run_size hn, if_true, this]
theorem resOf_1 (R : Rel P ft B w0 ρ h nx w) {trk : Nat} {tm : T AV} {tmps : Array Value} (H : TmAll ρ trk tm tmps) {a t id off : Nat} {d : TypeDesc} (htb : trk.testBit a = true) (hu : P.underlying t = some d) (hag : isAgg? P t = false) (hta : tm.get a = some (.ptr id off)) {v : AV} (hcl : load1 h id off = some v) :
    ∃ u, (resOf tmps (.cell a t)).run P w = .ok u w ∧ VRel ρ v u := by
  obtain ⟨g, hρ, hp⟩ := H a _ htb hta
  obtain ⟨u, hc, hru⟩ := load1_ok R hcl hρ
  refine ⟨u, ?_, hru⟩
  simp only [resOf, hp, asAddr, Sem.run_bind, Sem.run_pure, Result.andThen_ok, loadVar, run_agg_f hu hag]
  simp [hc]

theorem results_list (R : Rel P ft B w0 ρ h nx w) {trk : Nat} {tm : T AV} {tmps : Array Value} (H : TmAll ρ trk tm tmps) : ∀ {rs : List ResultVar} {ds : List DR} {l : List AV}, regRes P trk rs = some ds → results h tm ds = some l →
    ∃ us, (rs.mapM (resOf tmps)).run P w = .ok us w ∧ VRelL ρ l us
  | [], ds, l, hr, hl => by
    cases hr
    cases hl
    exact ⟨[], by simp, rfl⟩
  | .tmp t :: rs, ds, l, hr, hl => by
    simp only [regRes] at hr
    split at hr
    · rename_i htb
      obtain ⟨ds', hd, rfl⟩ := Option.map_eq_some_iff.1 hr
      simp only [results] at hl
      split at hl
      · rename_i v l' h1 h2
        cases hl
        obtain ⟨us, e1, e2⟩ := results_list R H hd h2
        refine ⟨tmps.getD t undef :: us, ?_, _, _, rfl, H t v htb h1, e2⟩
        have e0 : (resOf tmps (.tmp t)).run P w = .ok (tmps.getD t undef) w := rfl
        simp only [List.mapM_cons, Sem.run_bind, Sem.run_pure, Result.andThen_ok, e0, e1]
      · cases hl
    · cases hr
  | .cell a t :: rs, ds, l, hr, hl => by
    simp only [regRes] at hr
    split at hr
    · rename_i htb
      split at hr
      · rename_i l2 hd
        split at hr
        · rename_i hag
          obtain ⟨n, hn, rfl⟩ := Option.map_eq_some_iff.1 hr
          simp only [results] at hl
          split at hl
          · rename_i v l' h1 h2
            cases hl
            obtain ⟨us, e1, e2⟩ := results_list R H hd h2
            split at h1
            · rename_i id off hta
              split at h1
              · rename_i cl hcl
                cases h1
                obtain ⟨u, hu1, hu2⟩ := resOf_n R H htb hag hn hta hcl
                refine ⟨u :: us, ?_, _, _, rfl, hu2, e2⟩
                simp only [List.mapM_cons, Sem.run_bind, Sem.run_pure, Result.andThen_ok, hu1, e1]
              · cases h1
            · cases h1
          · cases hl
        · rename_i hag
          split at hr
          · rename_i d hu
            cases hr
            simp only [results] at hl
            split at hl
            · rename_i v l' h1 h2
              cases hl
              obtain ⟨us, e1, e2⟩ := results_list R H hd h2
              split at h1
              · rename_i id off hta
                obtain ⟨u, hu1, hu2⟩ := resOf_1 R H htb hu (by simpa using hag) hta h1
                refine ⟨u :: us, ?_, _, _, rfl, hu2, e2⟩
                simp only [List.mapM_cons, Sem.run_bind, Sem.run_pure, Result.andThen_ok, hu1, e1]
              · cases h1
            · cases hl
          · cases hr
      · cases hr
    · cases hr

theorem results_ok (R : Rel P ft B w0 ρ h nx w) {trk : Nat} {tm : T AV} {tmps : Array Value} (H : TmAll ρ trk tm tmps) {fn : Func} {ds : List DR} {l : List AV} (hr : regRes P trk fn.results.toList = some ds) (hl : results h tm ds = some l) :
    ∃ u, (Go.results fn tmps).run P w = .ok u w ∧ VRel ρ (tuple l) u := by
  obtain ⟨us, h1, h2⟩ := results_list R H hr hl
  refine ⟨if hz : us.length = 1 then us[0] else .tuple us.toArray, ?_, ?_⟩
  · rw [results_def, Array.mapM_eq_mapM_toList]
    simp only [Sem.run_bind, map_eq_pure_bind, h1, Result.andThen_ok, Sem.run_pure]
    congr 1
  · match l, us, h2 with
    | [], us, h2 => cases h2; exact rfl
    | [v], us, h2 =>
      obtain ⟨u, rfl, hu⟩ := VRelL.one h2
      exact hu
    | v :: v2 :: l, us, h2 =>
      have hlen := h2.length
      have hz : ¬ us.length = 1 := by rw [hlen]; simp
      rw [dif_neg hz]
      exact ⟨us, rfl, h2⟩

/-- a return -/
theorem stepRet_ok (hft : CodeOk P ft) {fr : AF} {b : Frame} {act : Act} {todo : List Item} {cs : List AF} {ms : List Frame} (F : FT' P ft ρ fr b act) (hret : fr.ret = true) (K : KR P ft ρ cs ms) (h1 : rootRnd fr cs = none) (h2 : rootFn fr cs = rf) (R : Rel P ft B w0 ρ h nx w) :
    Come P ft B w0 cs0 rf ρ (lone { b.atR act todo with mode := .returning } (ms ++ cs0) w) (stepRet ft fr cs h nx) := by
  obtain ⟨fb, df, hdf, hsz, htm⟩ := F
  unfold stepRet
  have hdfs := fb.dfs
  cases hd : fr.dfs with
  | cons d ds =>
    simp only
    cases hg : h.get d with
    | none => trivial
    | some o =>
      cases o <;> try trivial
      simp only
      rw [hd] at hdfs
      cases hxs : act.defers with
      | nil => rw [hxs] at hdfs; exact hdfs.elim
      | cons x xs =>
        rw [hxs] at hdfs
        obtain ⟨⟨g, hρ, rfl⟩, hrest⟩ := hdfs
        obtain ⟨ho, hB⟩ := R.at hg hρ
        have hB : B ≤ g.b := by
          rcases hB with hB | hB
          · simp [isRo] at hB
          · exact hB
        have hb : w.heap[g.b]? = some (.deferred (some [])) := ho
        have hbl : g.b < w.heap.size := (R.dom _ _ hρ).2
        have hk : (Instr.takeDeferred g.b).run P w = .ok [] { w with heap := w.heap.setIfInBounds g.b (.deferred none) } := by
          have hgo : (getObj g.b).run P w = .ok (.deferred (some [])) w := by simp [getObj, Sem.run, hb]
          simp only [Instr.takeDeferred, Sem.run_bind, hgo, Result.andThen_ok, run_setObj hb (fun _ _ _ h => by cases h), Sem.run_pure]
        have hstep := stepF_collected (P := P) (fr := { b.atR act todo with mode := .returning }) (cs := ms ++ cs0) (w := w) (ds := xs) rfl hxs hk
        refine ⟨ρ, _, Rho.le.refl ρ, .one hstep, ⟨b, { act with defers := xs }, todo, ms, { w with heap := w.heap.setIfInBounds g.b (.deferred none) }, ?_, R.gone hg hρ (Diff.setObj _ hB hbl), fun hh => ?_, fun _ => ⟨⟨fb.fn, fb.kind, fb.rnd, hrest⟩, df, hdf, hsz, htm⟩, K⟩, Eq.trans (rootRnd_eq (a := fr) (by rfl) cs) h1, Eq.trans (rootFn_eq (a := fr) (by rfl) cs) h2⟩
        · show _ = lone (if fr.ret then _ else _) _ _
          rw [hret]; rfl
        · change fr.ret = false at hh
          rw [hret] at hh; cases hh
  | nil =>
    simp only
    rw [hdf]
    simp only
    cases hl : results h fr.tm df.res with
    | none => trivial
    | some l =>
      simp only
      rw [hd] at hdfs
      have hxs : act.defers = [] := by
        cases hxs : act.defers with
        | nil => rfl
        | cons x xs => rw [hxs] at hdfs; exact hdfs.elim
      obtain ⟨fn, hfn, hn, hres⟩ := hft.n hdf
      obtain ⟨u, hu1, hu2⟩ := results_ok R htm hres hl
      have hleave : Frame.leaving P { b.atR act todo with mode := .returning } w (.returned u) := ⟨rfl, hxs, fb.kind, fn, by show P.funcs[b.fn]? = _; rw [fb.fn]; exact hfn, hu1⟩
      cases K with
      | nil =>
        exact ⟨ρ, _, w, u, Rho.le.refl ρ, Steps.refl _ _, by show b.fn = rf; rw [fb.fn]; exact h2, hleave, hu2, R⟩
      | cons hW hret' K =>
        rename_i c cs b' act' todo' ms
        simp only [retTo]
        exact Come.of_steps (.one (step_leave_returned hleave)) (come_finish (hW h) hret' K h1 h2 (Rho.le.refl ρ) R hu2)
end Go.Md
end
section
/- A STEP, A RUN, A CALL. No condition. -/
namespace Go.Md
variable {P : Program} {ft : FT} {B : Nat} {w0 w w' : World} {ρ ρ' : Rho} {h h' : T AO} {nx nx' : Nat} {cs0 : List Frame} {rf : Nat}

theorem stepC_ok (hft : CodeOk P ft) {big : Big} (hbig : BigOk P ft B w0 big) (hmix : P.follows .mixedOrders = true) {fr : AF} {b : Frame} {act : Act} {k : List AI} {k' : List Item} {c : Code} {dc : DC} {df : DF} {cs : List AF} {ms : List Frame}
    (hc : regCode P df.n df.trk c dc = some dc) (fb : FB ρ fr b act) (hdf : ft.get fr.fn = some df) (hsz : df.n ≤ act.tmps.size) (htm : TmAll ρ df.trk fr.tm act.tmps) (ht : TRel P ρ df.n df.trk k k') (hret : fr.ret = false)
    (K : KR P ft ρ cs ms) (h1 : rootRnd fr cs = none) (h2 : rootFn fr cs = rf) (R : Rel P ft B w0 ρ h nx w) :
    Come P ft B w0 cs0 rf ρ (lone (b.atR act (.code c :: k')) (ms ++ cs0) w) (stepC ft big fr cs h nx k dc) := by
  have one : ∀ {k k' c dc}, regCode P df.n df.trk c dc = some dc → TRel P ρ df.n df.trk k k' → Come P ft B w0 cs0 rf ρ (lone (b.atR act (.code c :: k')) (ms ++ cs0) w) (stepC1 ft big fr cs h nx k dc) := by
    intro k k' c dc hc ht
    exact stepC1_ok hft hbig nxOk hmix (fun f ps asg body e => by subst e; exact stepRf_ok hft hbig hc fb hdf hsz htm ht hret K h1 h2 R) hc fb hdf hsz htm ht hret K h1 h2 R
  unfold stepC
  split
  · rename_i x y
    cases c <;> simp only [regCode] at hc <;> try (cases hc; done)
    split at hc
    · rename_i hx hy
      simp only [Option.some.injEq, DC.seq.injEq] at hc
      obtain ⟨rfl, rfl⟩ := hc
      exact Come.of_steps (.one stepR_seq) (one hx (.cons (.c hy) ht))
    · cases hc
  · exact one hc ht

theorem stepRun_ok (hft : CodeOk P ft) {big : Big} (hbig : BigOk P ft B w0 big) (hmix : P.follows .mixedOrders = true) {fr : AF} {b : Frame} {act : Act} {todo : List Item} {cs : List AF} {ms : List Frame}
    (F : FR P ft ρ h fr b act todo) (hret : fr.ret = false) (K : KR P ft ρ cs ms) (h1 : rootRnd fr cs = none) (h2 : rootFn fr cs = rf) (R : Rel P ft B w0 ρ h nx w) :
    Come P ft B w0 cs0 rf ρ (lone (b.atR act todo) (ms ++ cs0) w) (stepRun ft big fr cs h nx fr.todo) := by
  cases F with
  | dr fb hdf htodo D ht =>
    rw [htodo]
    simp only [stepRun]
    exact stepDr_ok hft hbig fb hdf D ht hret K h1 h2 R
  | drr fb hdf htodo D ht =>
    rename_i df U re l k k' ops done rest
    rw [htodo]
    simp only [stepRun]
    split
    · rename_i hre
      have := recheck_spec hre
      exact come_go (Steps.refl _ _) (Rho.le.refl ρ) R (.dr (df := df) (fb.put rfl rfl rfl rfl) hdf rfl (D.ok_mono fun d q x hx1 hx => by
        rcases hx with hx | hx
        · exact hx
        · exact this d q hx x hx1) ht) hret K (Eq.trans (rootRnd_eq (a := fr) (by rfl) cs) h1) (Eq.trans (rootFn_eq (a := fr) (by rfl) cs) h2)
    · trivial
  | plain FPp =>
    rename_i df
    obtain ⟨fb, hdf, hsz, htm, htodo⟩ := FPp
    obtain ⟨k2, hk1, hk2, hk3, hk4⟩ := pads htodo
    refine Come.of_steps (hk4 b act (ms ++ cs0) w) ?_
    cases hfk : fr.todo with
    | nil =>
      rw [hk2 hfk]
      simp only [stepRun]
      exact leave_ok (k' := []) (.inl ⟨rfl, rfl⟩) fb hdf hsz htm hft K h1 h2 R
    | cons i k =>
      obtain ⟨x, k3, rfl, hi, hk⟩ := hk3 i k hfk
      cases hi with
      | c hc =>
        simp only [stepRun]
        exact stepC_ok hft hbig hmix hc fb hdf hsz htm hk hret K h1 h2 R
      | blk =>
        simp only [stepRun]
        exact come_todo (.one stepR_inBlock) R fb hdf hsz htm hk hret K h1 h2
      | lp hc =>
        simp only [stepRun]
        exact come_todo (.one stepR_inLoop) R fb hdf hsz htm (.cons (.c hc) (.cons (.lp hc) hk)) hret K h1 h2
      | scp hc =>
        simp only [stepRun]
        exact come_todo (.one (step_lone_go (by simp [stepG, stepG.exec, Frame.atR]))) R fb hdf hsz htm hk hret K h1 h2
      | ops hl =>
        rename_i l ops j
        simp only [stepRun]
        cases l with
        | nil =>
          have hnil : ops.toList.drop j = [] := by
            cases hd : ops.toList.drop j with
            | nil => rfl
            | cons _ _ => rw [hd] at hl; cases hl
          have hge : ops.size ≤ j := by
            have := List.drop_eq_nil_iff.1 hnil
            simpa using this
          rw [upFrom_ge hge]
          exact come_todo (.one stepR_region_end) R fb hdf hsz htm hk hret K h1 h2
        | cons sg r => exact doSeg_ok hft hbig nxOk fb hdf hsz htm hk hl hret K h1 h2 R
      | endrf hρ =>
        simp only [stepRun]
        exact stepEndrf_ok hft hρ fb hdf hsz htm hk hret K h1 h2 R
      | br =>
        simp only [stepRun]
        exact stepBr_ok fb hdf hsz htm hk hret K h1 h2 R

theorem step_ok (hft : CodeOk P ft) {big : Big} (hbig : BigOk P ft B w0 big) (hmix : P.follows .mixedOrders = true) {s : St} {m : Machine} (S : Sim P ft B w0 cs0 rf ρ s m) : Come P ft B w0 cs0 rf ρ m (step ft big s) := by
  obtain ⟨⟨b, act, todo, ms, w, rfl, R, hF, hT, K⟩, h1, h2⟩ := S
  obtain ⟨fr, cs, h, nx⟩ := s
  cases hret : fr.ret with
  | true =>
    have hT := hT hret
    have := stepRet_ok (cs0 := cs0) (todo := todo) hft hT hret K h1 h2 R
    obtain ⟨fn, tm, td, rnd, dfs, ret⟩ := fr
    cases hret
    exact this
  | false =>
    have hF := hF hret
    have := stepRun_ok (cs0 := cs0) hft hbig hmix hF hret K h1 h2 R
    obtain ⟨fn, tm, td, rnd, dfs, ret⟩ := fr
    cases hret
    exact this

theorem run_zero (ft : FT) (big : Big) (s : St) : run ft big 0 s = .go s := rfl
theorem run_succ (ft : FT) (big : Big) (n : Nat) (s : St) : run ft big (n + 1) s = (match step ft big s with
  | .go s => run ft big n s
  | .fork l => (match l with
    | [s] => run ft big n s
    | _ => .bad)
  | .done v h nx => .done v h nx
  | .bad => .bad) := rfl

theorem run_ok (hft : CodeOk P ft) {big : Big} (hbig : BigOk P ft B w0 big) (hmix : P.follows .mixedOrders = true) : ∀ (n : Nat) {ρ : Rho} {s : St} {m : Machine}, Sim P ft B w0 cs0 rf ρ s m → Come P ft B w0 cs0 rf ρ m (run ft big n s)
  | 0, ρ, s, m, S => ⟨ρ, m, Rho.le.refl ρ, Steps.refl _ _, S⟩
  | n + 1, ρ, s, m, S => by
    have C := step_ok hft hbig hmix S
    rw [run_succ]
    cases hs : step ft big s with
    | go s2 =>
      rw [hs] at C
      obtain ⟨ρ', m', c1, c2, c3⟩ := C
      exact Come.le c1 (Come.of_steps c2 (run_ok hft hbig hmix n c3))
    | fork l =>
      rw [hs] at C
      obtain ⟨s2, hm, ρ', m', c1, c2, c3⟩ := C
      simp only
      split
      · cases List.mem_singleton.1 hm
        exact Come.le c1 (Come.of_steps c2 (run_ok hft hbig hmix n c3))
      · trivial
    | done v h nx => rw [hs] at C; exact C
    | bad => trivial
end Go.Md
end
section
/- ENDS: all ways of D end with Q; then the model's call returns, and Q holds of what it answers. No condition. -/
namespace Go.Md
variable {P : Program} {ft : FT} {B : Nat} {w0 w w' : World} {ρ ρ' : Rho} {h h' : T AO} {nx nx' : Nat} {cs0 : List Frame} {rf : Nat}

inductive Ends (ft : FT) (big : Big) (Q : AV → T AO → Nat → Prop) : St → Prop
  | done {s v h nx} : step ft big s = .done v h nx → Q v h nx → Ends ft big Q s
  | go {s s'} : step ft big s = .go s' → Ends ft big Q s' → Ends ft big Q s
  | fork {s l} : step ft big s = .fork l → (∀ s' ∈ l, Ends ft big Q s') → Ends ft big Q s

theorem Ends.come (hft : CodeOk P ft) {big : Big} (hbig : BigOk P ft B w0 big) (hmix : P.follows .mixedOrders = true) {Q : AV → T AO → Nat → Prop} {s : St} (E : Ends ft big Q s) : ∀ {ρ : Rho} {m : Machine}, Sim P ft B w0 cs0 rf ρ s m →
    ∃ ρ' fr w u v h nx, ρ.le ρ' ∧ Steps P m (lone fr cs0 w) ∧ fr.fn = rf ∧ fr.leaving P w (.returned u) ∧ VRel ρ' v u ∧ Rel P ft B w0 ρ' h nx w ∧ Q v h nx := by
  induction E with
  | done hs hq =>
    intro ρ m S
    have C := step_ok hft hbig hmix S
    rw [hs] at C
    obtain ⟨ρ', fr, w, u, c1, c2, c3, c4, c5, c6⟩ := C
    exact ⟨ρ', fr, w, u, _, _, _, c1, c2, c3, c4, c5, c6, hq⟩
  | go hs _ ih =>
    intro ρ m S
    have C := step_ok hft hbig hmix S
    rw [hs] at C
    obtain ⟨ρ1, m1, c1, c2, c3⟩ := C
    obtain ⟨ρ', fr, w, u, v, h, nx, d1, d2, d3⟩ := ih c3
    exact ⟨ρ', fr, w, u, v, h, nx, c1.trans d1, c2.trans d2, d3⟩
  | fork hs _ ih =>
    intro ρ m S
    have C := step_ok hft hbig hmix S
    rw [hs] at C
    obtain ⟨s2, hm, ρ1, m1, c1, c2, c3⟩ := C
    obtain ⟨ρ', fr, w, u, v, h, nx, d1, d2, d3⟩ := ih s2 hm c3
    exact ⟨ρ', fr, w, u, v, h, nx, c1.trans d1, c2.trans d2, d3⟩
theorem Ends.mono {big : Big} {Q Q' : AV → T AO → Nat → Prop} {s : St} (E : Ends ft big Q s) (hq : ∀ v h nx, Q v h nx → Q' v h nx) : Ends ft big Q' s := by
  induction E with
  | done hs h => exact .done hs (hq _ _ _ h)
  | go hs _ ih => exact .go hs ih
  | fork hs _ ih => exact .fork hs ih

/-- a call's first state -/
noncomputable def entry (f : Nat) (df : DF) (args : List AV) (h : T AO) (nx : Nat) : St := { fr := { fn := f, tm := treeOf args, todo := [.c df.body], rnd := none, dfs := [], ret := false }, cs := [], h, nx }
theorem entry_sim (hft : CodeOk P ft) {f : Nat} {df : DF} (hdf : ft.get f = some df) (R : Rel P ft B w0 ρ h nx w) {args : List AV} {us : List Value} (ha : VRelL ρ args us) :
    Sim P ft B w0 cs0 f ρ (entry f df args h nx) (lone (Frame.enter P f us.toArray .normal) cs0 w) := by
  obtain ⟨fn, hfn, hreg⟩ := hft f df hdf
  unfold regFn at hreg
  split at hreg
  · cases hreg
  · split at hreg
    · rename_i c hc
      split at hreg
      · rename_i body res hb hres
        simp only [Option.some.injEq] at hreg
        have hn : df.n = fn.ntmps := by rw [← hreg]
        have hbody : df.body = body := by rw [← hreg]
        let nb : Frame := { (default : Frame) with fn := f, kind := .normal }
        let na : Act := { tmps := us.toArray ++ Array.replicate (fn.ntmps - us.toArray.size) undef, defers := [] }
        have henter : Frame.enter P f us.toArray .normal = nb.atR na [.code c] := by
          simp [Frame.enter, Frame.atR, hfn, hc, nb, na]
          rfl
        refine ⟨⟨nb, na, [.code c], [], w, ?_, R, fun _ => .plain (df := df) ⟨⟨rfl, rfl, trivial, trivial⟩, hdf, ?_, ?_, .cons (.c ?_) .nil⟩, fun ht => (by cases ht), .nil⟩, rfl, rfl⟩
        · rw [henter]; rfl
        · rw [hn]
          show fn.ntmps ≤ (us.toArray ++ Array.replicate (fn.ntmps - us.toArray.size) undef).size
          simp
          omega
        · intro t v _ hv
          have hget := treeOf_get args t v hv
          obtain ⟨u, hu1, hu2⟩ := ha.get t v hget
          show VRel ρ v ((us.toArray ++ Array.replicate (fn.ntmps - us.toArray.size) undef).getD t undef)
          have hlt : t < us.length := (List.getElem?_eq_some_iff.1 hu1).1
          have : (us.toArray ++ Array.replicate (fn.ntmps - us.toArray.size) undef).getD t undef = u := by
            rw [Array.getD_eq_getD_getElem?, Array.getElem?_append_left (by simpa using hlt)]
            simp [hu1]
          rw [this]; exact hu2
        · rw [hn, hbody]
          have : regCode P fn.ntmps df.trk c df.body = some df.body := by rw [hb, hbody]
          rw [hbody] at this
          exact this
      · cases hreg
    · cases hreg

theorem calls_of_ends (hft : CodeOk P ft) {big : Big} (hbig : BigOk P ft B w0 big) (hmix : P.follows .mixedOrders = true) {f : Nat} {df : DF} (hdf : ft.get f = some df) (R : Rel P ft B w0 ρ h nx w) {args : List AV} {us : List Value} (ha : VRelL ρ args us)
    {Q : AV → T AO → Nat → Prop} (E : Ends ft big Q (entry f df args h nx)) :
    Calls P f us.toArray w fun e w' => ∃ u ρ' v h' nx', e = .returned u ∧ ρ.le ρ' ∧ VRel ρ' v u ∧ Rel P ft B w0 ρ' h' nx' w' ∧ Q v h' nx' := by
  intro cs
  obtain ⟨ρ', fr, w2, u, v, h2, nx2, c1, c2, c3, c4, c5, c6, c7⟩ := E.come hft hbig hmix (entry_sim (cs0 := cs) hft hdf R ha)
  exact ⟨.returned u, w2, fr, ⟨u, ρ', v, h2, nx2, rfl, c1, c5, c6, c7⟩, c2, c3, c4⟩

/-- all leaves of a run -/
noncomputable def leavesOf (ft : FT) (big : Big) (n : Nat) : St → Option (List (AV × T AO × Nat)) :=
  Nat.rec (motive := fun _ => St → Option (List (AV × T AO × Nat))) (fun _ => none)
    (fun _ ih s => match step ft big s with
      | .go s => ih s
      | .fork l => List.rec (motive := fun _ => Option (List (AV × T AO × Nat))) (some []) (fun s _ r => match ih s with
        | some a => (match r with
          | some b => some (a ++ b)
          | none => none)
        | none => none) l
      | .done v h nx => some [(v, h, nx)]
      | .bad => none) n
theorem leaves_ends {big : Big} : ∀ (n : Nat) (s : St) (L : List (AV × T AO × Nat)), leavesOf ft big n s = some L → Ends ft big (fun v h nx => (v, h, nx) ∈ L) s
  | 0, s, L, h => by cases h
  | n + 1, s, L, h => by
    have h' : (match step ft big s with
      | .go s => leavesOf ft big n s
      | .fork l => List.rec (motive := fun _ => Option (List (AV × T AO × Nat))) (some []) (fun s _ r => match leavesOf ft big n s with
        | some a => (match r with
          | some b => some (a ++ b)
          | none => none)
        | none => none) l
      | .done v h nx => some [(v, h, nx)]
      | .bad => none) = some L := h
    cases hs : step ft big s with
    | go s2 =>
      rw [hs] at h'
      exact .go hs (leaves_ends n s2 L h')
    | done v hh nx =>
      rw [hs] at h'
      cases h'
      exact .done hs (by simp)
    | bad => rw [hs] at h'; cases h'
    | fork l =>
      rw [hs] at h'
      refine .fork hs ?_
      simp only at h'
      clear hs h
      induction l generalizing L with
      | nil => intro s2 hm; cases hm
      | cons s2 r ih =>
        simp only at h'
        cases ha : leavesOf ft big n s2 with
        | none => rw [ha] at h'; cases h'
        | some a =>
          rw [ha] at h'
          simp only at h'
          split at h'
          · rename_i b hb
            cases h'
            intro s3 hm
            rcases List.mem_cons.1 hm with rfl | hm
            · exact (leaves_ends n s3 a ha).mono fun v h nx hh => by simp [hh]
            · exact (ih b hb s3 hm).mono fun v h nx hh => by simp [hh]
          · cases h'

/-! a heap that says less -/
def TLe {α : Type} (a b : T α) : Prop := ∀ j v, a.get j = some v → b.get j = some v
def OLe : AO → AO → Prop
  | .cells l n ro o e, .cells l' n' ro' o' e' => TLe l l' ∧ n = n' ∧ ro = ro' ∧ o = o' ∧ e = e'
  | .bytes a n o, .bytes a' n' o' => a = a' ∧ n = n' ∧ o = o'
  | .map es c sh, .map es' c' sh' => es.Perm es' ∧ c = c' ∧ sh = sh'
  | a, b => a = b
def HLe (h h' : T AO) : Prop := ∀ id o, h.get id = some o → ∃ o', h'.get id = some o' ∧ OLe o o'

theorem ERelL.perm {ρ : Rho} {es es' : List (AV × AV × Nat)} (hp : es.Perm es') : ∀ {l : List MapEntry}, ERelL ρ es l → ∃ l', ERelL ρ es' l' ∧ l.Perm l' := by
  induction hp with
  | nil => intro l h; exact ⟨l, h, .refl _⟩
  | cons x _ ih =>
    rintro l ⟨e, s, rfl, h1, h2⟩
    obtain ⟨l', h3, h4⟩ := ih h2
    exact ⟨e :: l', ⟨e, l', rfl, h1, h3⟩, h4.cons e⟩
  | swap x y l0 =>
    rintro l ⟨e, s, rfl, h1, e2, s2, rfl, h2, h3⟩
    exact ⟨e2 :: e :: s2, ⟨e2, e :: s2, rfl, h2, e, s2, rfl, h1, h3⟩, .swap _ _ _⟩
  | trans _ _ ih1 ih2 =>
    intro l h
    obtain ⟨l1, h1, h2⟩ := ih1 h
    obtain ⟨l2, h3, h4⟩ := ih2 h1
    exact ⟨l2, h3, h2.trans h4⟩

theorem ORel.sub {g : Gh} {o o' : AO} (he : OLe o o') (hr : ORel P ft ρ w g o') : ORel P ft ρ w g o := by
  cases o with
  | cells l n ro op e =>
    cases o' with
    | cells l' n' ro' op' e' =>
      obtain ⟨h1, rfl, rfl, rfl, rfl⟩ := he
      obtain ⟨arr, el, fz, a, b, c, d, e2, f⟩ := hr
      exact ⟨arr, el, fz, a, b, c, d, e2, fun j v hj hv => f j v hj (h1 j v hv)⟩
    | _ => simp [OLe] at he
  | bytes a n op =>
    cases o' with
    | bytes a' n' op' => obtain ⟨rfl, rfl, rfl⟩ := he; exact hr
    | _ => simp [OLe] at he
  | map es c sh =>
    cases o' with
    | map es' c' sh' =>
      obtain ⟨hp, rfl, rfl⟩ := he
      obtain ⟨ents, l, a, b, d, e, f, g1, i⟩ := hr
      obtain ⟨l', h3, h4⟩ := ERelL.perm hp.symm d
      exact ⟨ents, l', a, b.trans h4, h3, (hp.map _).nodup_iff.2 e, (hp.map _).nodup_iff.2 f, fun x hx => g1 x (hp.mem_iff.1 hx), fun x hx => i x (hp.mem_iff.1 hx)⟩
    | _ => simp [OLe] at he
  | loop =>
    cases o' with
    | loop => simp only [OLe] at he; rw [he]; exact hr
    | _ => simp [OLe] at he
  | dfr =>
    cases o' with
    | dfr => exact hr
    | _ => simp [OLe] at he
  | miter =>
    cases o' with
    | miter => simp only [OLe] at he; rw [he]; exact hr
    | _ => simp [OLe] at he
theorem OLe.ro {o o' : AO} (he : OLe o o') : isRo o = isRo o' := by
  cases o <;> cases o' <;> first | rfl | (simp [OLe] at he; done) | (simp [OLe] at he; simp [isRo, he])

theorem Rel.sub (R : Rel P ft B w0 ρ h nx w) (hs : HLe h' h) (hn : nx ≤ nx') : Rel P ft B w0 ρ h' nx' w := by
  refine ⟨fun id o hg => ?_, fun i j oi oj gi gj hi hj => ?_, fun id g hg => ⟨Nat.lt_of_lt_of_le (R.dom id g hg).1 hn, (R.dom id g hg).2⟩, R.glob, R.base, R.below⟩
  · obtain ⟨o', h1, h2⟩ := hs id o hg
    obtain ⟨g, h3, h4, h5⟩ := R.obj id o' h1
    exact ⟨g, h3, h4.sub h2, by rw [h2.ro]; exact h5⟩
  · obtain ⟨oi', h1, _⟩ := hs i oi hi
    obtain ⟨oj', h2, _⟩ := hs j oj hj
    exact R.inj i j oi' oj' gi gj h1 h2
end Go.Md
end
