import Derived.Test.YtgpdolhclinjdaaGreatDoorM10
set_option linter.unusedVariables false
set_option linter.unusedSimpArgs false
set_option linter.unusedSectionVars false
section
/- REGIONS THAT DRAW THEIR ORDER: what is asked again; begin and end. No condition. -/
namespace Go.Md
variable {U : List (Nat × Nat)} {P : Program} {ft : FT} {B : Nat} {w0 w w' : World} {ρ ρ' : Rho} {h h' : T AO} {nx nx' : Nat}

/-- while the region waits -/
def okW (tm : T AV) (re : List (Nat × DQ)) (d : Nat) (q : DQ) (v : AV) : Prop := (∀ h', evalQ tm [] h' q = some v) ∨ (d, q) ∈ re
/-- before what is asked again is asked -/
def okR (tm : T AV) (h : T AO) (re : List (Nat × DQ)) (d : Nat) (q : DQ) (v : AV) : Prop := evalQ tm [] h q = some v ∨ (d, q) ∈ re

theorem regRe_spec {trk : Nat} {ops : Array Oper} : ∀ {re re' : List (Nat × DQ)}, regRe P trk ops re = some re' → ∀ x ∈ re', ∃ j o, ofDst ops x.1 = some j ∧ ops[j]? = some o ∧ regQ P trk ops [] o = some x.2
  | [], re', h, x, hx => by cases h; cases hx
  | (t, q0) :: r, re', h, x, hx => by
    simp only [regRe] at h
    split at h
    · rename_i o ho
      split at h
      · rename_i q l h1 h2
        cases h
        rcases List.mem_cons.1 hx with rfl | hx
        · obtain ⟨j, hj, hjo⟩ := Option.bind_eq_some_iff.1 ho
          exact ⟨j, o, hj, hjo, h1⟩
        · exact regRe_spec h2 x hx
      · cases h
    · cases h
theorem ofDst_spec {ops : Array Oper} {t j : Nat} (h : ofDst ops t = some j) : j < ops.size ∧ dstOf ops j = some t := by
  unfold ofDst at h
  have h1 := List.mem_of_find?_eq_some h
  have h2 := List.find?_some h
  exact ⟨List.mem_range.1 h1, by simpa using h2⟩

theorem ancs_before {ops : Array Oper} {A C : List Nat} {i : Nat} (L : Lin ops (A ++ i :: C)) : ∀ (l S : List Nat), (∀ x ∈ S, x = i ∨ x ∈ A) → ∀ x ∈ ancs ops S l, x = i ∨ x ∈ A
  | [], S, hS, x, hx => hS x hx
  | z :: l, S, hS, x, hx => by
    simp only [ancs] at hx
    split at hx
    · rename_i hz
      simp only [List.any_eq_true, List.contains_iff_mem] at hz
      obtain ⟨y, hy, hzy⟩ := hz
      refine ancs_before L l (z :: S) (fun u hu => ?_) x hx
      rcases List.mem_cons.1 hu with rfl | hu
      · right
        rcases hS y hy with rfl | hyA
        · exact L.pre A y C rfl u hzy
        · obtain ⟨X, Y, rfl⟩ := List.append_of_mem hyA
          have := L.pre X y (Y ++ i :: C) (by simp) u hzy
          simp [this]
      · exact hS u hu
    · exact ancs_before L l S hS x hx

theorem isQuiet_of {trk : Nat} {ops : Array Oper} {j : Nat} {o : Oper} (ho : ops[j]? = some o) {q : DQ} (hq : regQ P trk ops [] o = some q) : isQuiet P ops j = some q.k := by
  unfold regQ at hq
  split at hq
  · rename_i k xs hc
    split at hq
    · cases hq
      simp [isQuiet, ho, hc]
    · cases hq
  · cases hq

/-- behind a write, a call -/
theorem okW_of {n trk : Nat} {ops : Array Oper} {done : List Nat} {i : Nat} {f : Fin} {re : List (Nat × DQ)} {l : List DI} {C : List Nat} {tm : T AV} {tmps : Array Value} {ok : Nat → DQ → AV → Prop}
    (D : DInv P ρ n trk ops U done (.s i f re :: l) (i :: C) tm tmps ok) {o : Oper} (S : StrongOk P n trk ops U done i f re l o) (hf : isQs f = false) {v : AV} :
    ∀ j ∈ C, j ∈ done → ∀ o' q d x, ops[j]? = some o' → o'.dst = some d → regQ P trk ops [] o' = some q → evalQ tm [] h q = some x → (∀ h', evalQ (putD tm o.dst v) [] h' q = evalQ tm [] h' q) → distinctOk ops j = true → okW (putD tm o.dst v) re d q x := by
  intro j hj hd o' q d x h1 h2 h3 h4 h5 h6
  have hre : reOk P ops i done re = true := by
    rcases S.reok with h | h
    · rw [hf] at h; cases h
    · exact h
  unfold reOk at hre
  simp only [List.all_eq_true] at hre
  have := hre j hd
  rw [isQuiet_of h1 h3] at this
  simp only [Bool.or_eq_true, List.contains_iff_mem, List.any_eq_true, beq_iff_eq] at this
  have hjsz : j < ops.size := (Array.getElem?_eq_some_iff.1 h1).1
  rcases this with (h7 | h7) | h7
  · left
    intro h'
    rw [h5, evalQ_pure h7 tm [] h' h]
    exact h4
  · exfalso
    obtain ⟨pre, L, _⟩ := D.ord
    have hnd := List.nodup_append.1 L.nodup
    rcases ancs_before L done [i] (fun x hx => .inl (by simpa using hx)) j h7 with h8 | h8
    · subst h8
      exact (List.nodup_cons.1 hnd.2.1).1 hj
    · exact hnd.2.2 j h8 j (by simp [hj]) rfl
  · obtain ⟨⟨t, q'⟩, hm, ht⟩ := h7
    right
    have hdt := dstOf_eq h1
    rw [h2] at hdt
    rw [hdt] at ht
    cases ht
    obtain ⟨j', o2, e1, e2, e3⟩ := regRe_spec S.regre _ hm
    obtain ⟨e4, e5⟩ := ofDst_spec e1
    have : j' = j := Classical.byContradiction fun hne => distinct_spec h6 e4 hne hdt e5
    subst this
    rw [h1] at e2
    cases e2
    rw [h3] at e3
    cases e3
    exact hm

/-- what is asked again says the same -/
theorem recheck_spec {tm : T AV} {h : T AO} : ∀ {re : List (Nat × DQ)}, recheck tm h re = true → ∀ d q, (d, q) ∈ re → ∀ v, tm.get d = some v → evalQ tm [] h q = some v
  | [], _, d, q, hm, _, _ => by cases hm
  | (t, q0) :: r, hr, d, q, hm, v, hv => by
    simp only [recheck] at hr
    split at hr
    · rename_i x u h1 h2
      split at hr
      · rename_i hb
        rcases List.mem_cons.1 hm with h | hm
        · cases h
          rw [h2] at hv
          cases hv
          rw [h1, (AV.beq_iff _ _).1 hb]
        · exact recheck_spec hr d q hm v hv
      · cases hr
    · cases hr

theorem DInv.ok_mono {n trk : Nat} {ops : Array Oper} {done : List Nat} {l : List DI} {rest : List Nat} {tm : T AV} {tmps : Array Value} {ok ok' : Nat → DQ → AV → Prop} (D : DInv P ρ n trk ops U done l rest tm tmps ok)
    (hok : ∀ d q v, tm.get d = some v → ok d q v → ok' d q v) : DInv P ρ n trk ops U done l rest tm tmps ok' :=
  ⟨D.reg, D.hac, D.cover, D.ord, D.sub, fun i h1 h2 => by
    obtain ⟨o, q, d, v, p1, p2, p3, p4, p5, p6, p7, p8⟩ := D.pend i h1 h2
    exact ⟨o, q, d, v, p1, p2, p3, p4, p5, p6, hok d q v p6 p7, p8⟩, D.tm, D.size⟩

/-- the region's end -/
theorem DInv.ends {n trk : Nat} {ops : Array Oper} {done : List Nat} {rest : List Nat} {tm : T AV} (b : Frame) (k : List Item) (cs : List Frame) (R : Rel P ft B w0 ρ h nx w) {a : Act} (D : DInv P ρ n trk ops U done [] rest tm a.tmps (fun _ q v => evalQ tm [] h q = some v)) :
    ∃ a', TmAll ρ trk tm a'.tmps ∧ n ≤ a'.tmps.size ∧ a'.defers = a.defers ∧ Steps P (lone (b.atR a (.inRegion ops rest :: k)) cs w) (lone (b.atR a' (.inRegion ops [] :: k)) cs w) := by
  obtain ⟨pre, L, _⟩ := D.ord
  have hall : ∀ i ∈ rest, i ∈ done := fun i hi => by
    rcases D.cover i (L.lt i (by simp [hi])) with h | h
    · exact h
    · cases h
  have D0 : DInv P ρ n trk ops U done [] (rest ++ []) tm a.tmps (fun _ q v => evalQ tm [] h q = some v) := by rw [List.append_nil]; exact D
  obtain ⟨a', D', h2, h3⟩ := DInv.runs b k cs R [] rest a D0 hall
  rw [List.append_nil] at h3
  exact ⟨a', fun t v h1 h2 => D'.tm t v h1 h2 fun i hi => (by cases hi), D'.size, h2, h3⟩

theorem regDr_nodup {n trk : Nat} {ops : Array Oper} : ∀ {l : List DI} {done : List Nat}, regDr P n trk ops U done l = some l → (l.map DI.ix).Nodup ∧ ∀ x ∈ l.map DI.ix, x ∉ done
  | [], _, _ => ⟨by simp, fun x hx => by cases hx⟩
  | .q i d q :: l, done, hr => by
    simp only [regDr] at hr
    split at hr
    · rename_i hc
      simp only [Bool.and_eq_true, Bool.not_eq_true'] at hc
      have c1' : i ∉ done := fun hm => by rw [List.contains_iff_mem.2 hm] at hc; exact absurd hc.1.1.1.1 (by simp)
      split at hr
      · rename_i o ho
        split at hr
        · rename_i d' q' l' _ _ hl
          simp only [Option.some.injEq, List.cons.injEq] at hr
          have hl' : regDr P n trk ops U (i :: done) l = some l := by rw [hl, hr.2]
          obtain ⟨h1, h2⟩ := regDr_nodup hl'
          simp only [List.map_cons, DI.ix, List.nodup_cons]
          exact ⟨⟨fun hm => h2 i hm (by simp), h1⟩, fun x hx => by
            rcases List.mem_cons.1 hx with rfl | hx
            · exact c1'
            · exact fun hd => h2 x hx (by simp [hd])⟩
        · cases hr
      · cases hr
    · cases hr
  | .s i f re :: l, done, hr => by
    obtain ⟨o, S⟩ := regDr_s hr
    obtain ⟨h1, h2⟩ := regDr_nodup S.rest
    simp only [List.map_cons, DI.ix, List.nodup_cons]
    exact ⟨⟨fun hm => h2 i hm (by simp), h1⟩, fun x hx => by
      rcases List.mem_cons.1 hx with rfl | hx
      · exact S.new
      · exact fun hd => h2 x hx (by simp [hd])⟩

/-- the region's begin -/
theorem DInv.begins {n trk : Nat} {ops : Array Oper} {l : List DI} (hr : regDraw P n trk ops U l = some l) {tm : T AV} {tmps : Array Value} (H : TmAll ρ trk tm tmps) (hs : n ≤ tmps.size) (hm : P.follows .mixedOrders = true) (t : Nat) (hU : ∀ p ∈ U, Bef (Region.linearise .any ops t) p.1 p.2) {ok : Nat → DQ → AV → Prop} :
    DInv P ρ n trk ops U [] l (Region.schedule (P.follows .mixedOrders) ops t) tm tmps ok := by
  unfold regDraw at hr
  split at hr
  · rename_i hc
    simp only [Bool.and_eq_true, beq_iff_eq, List.all_eq_true, decide_eq_true_eq, List.mem_range] at hc
    obtain ⟨⟨h1, h2⟩, h3⟩ := hc
    have hac : ∀ i, i < ops.size → ∀ p ∈ preds ops i, p < i := fun i hi p hp => h3 i hi p hp
    obtain ⟨L, hL⟩ := linearise_lin hac t
    obtain ⟨hnd, _⟩ := regDr_nodup hr
    have hsch : Region.schedule (P.follows .mixedOrders) ops t = Region.linearise .any ops t := by simp [Region.schedule, hm]
    rw [hsch]
    refine ⟨hr, hac, fun i hi => .inr ?_, ⟨[], L, hL, hU⟩, fun i hi hn => absurd (L.full hL i hi) hn, fun i _ hd => (by cases hd), fun t v a b _ => H t v a b, hs⟩
    apply Classical.byContradiction
    intro hn
    have hnd' : (i :: l.map DI.ix).Nodup := List.nodup_cons.2 ⟨hn, hnd⟩
    have hsub : ∀ j ∈ i :: l.map DI.ix, j ∈ List.range ops.size := fun j hj => by
      rcases List.mem_cons.1 hj with rfl | hj
      · exact List.mem_range.2 hi
      · obtain ⟨x, hx, rfl⟩ := List.mem_map.1 hj
        exact List.mem_range.2 (h2 x hx)
    have := hnd'.length_le_of_subset hsub
    simp [h1] at this
    omega
  · cases hr

theorem bef_total {ops : Array Oper} {ord : List Nat} (L : Lin ops ord) (hl : ord.length = ops.size) {a b : Nat} (ha : a < ops.size) (hb : b < ops.size) (hne : a ≠ b) : Bef ord a b ∨ Bef ord b a := by
  obtain ⟨X, Y, rfl⟩ := List.append_of_mem (L.full hl a ha)
  have hbm := L.full hl b hb
  rcases List.mem_append.1 hbm with h | h
  · obtain ⟨X1, X2, rfl⟩ := List.append_of_mem h
    exact .inr ⟨X1, X2 ++ a :: Y, by simp, by simp⟩
  · rcases List.mem_cons.1 h with h | h
    · exact absurd h.symm hne
    · exact .inl ⟨X, Y, rfl, h⟩
/-- whatever is drawn, a leaf fits -/
theorem tree_leaf {n trk : Nat} {ops : Array Oper} {ord : List Nat} (L : Lin ops ord) (hl : ord.length = ops.size) : ∀ {t : DT} {U : List (Nat × Nat)}, regTree P n trk ops U t = some t → (∀ p ∈ U, Bef ord p.1 p.2) →
    ∃ l ∈ leaves t, ∃ U', regDraw P n trk ops U' l = some l ∧ ∀ p ∈ U', Bef ord p.1 p.2
  | .leaf l, U, hr, hU => by
    simp only [regTree, Option.map_eq_some_iff, DT.leaf.injEq] at hr
    obtain ⟨l', h1, rfl⟩ := hr
    exact ⟨l', by simp [leaves], U, h1, hU⟩
  | .split a b x y, U, hr, hU => by
    simp only [regTree] at hr
    split at hr
    · rename_i hc
      simp only [Bool.and_eq_true, decide_eq_true_eq, bne_iff_ne, ne_eq] at hc
      obtain ⟨⟨ha, hb⟩, hne⟩ := hc
      split at hr
      · rename_i x' y' hx hy
        simp only [Option.some.injEq, DT.split.injEq, true_and] at hr
        obtain ⟨rfl, rfl⟩ := hr
        rcases bef_total L hl ha hb hne with h | h
        · obtain ⟨l, h1, h2⟩ := tree_leaf L hl hx (fun p hp => by
            rcases List.mem_cons.1 hp with rfl | hp
            · exact h
            · exact hU p hp)
          exact ⟨l, by simp [leaves, h1], h2⟩
        · obtain ⟨l, h1, h2⟩ := tree_leaf L hl hy (fun p hp => by
            rcases List.mem_cons.1 hp with rfl | hp
            · exact h
            · exact hU p hp)
          exact ⟨l, by simp [leaves, h1], h2⟩
      · cases hr
    · cases hr
theorem regDraw_hac {n trk : Nat} {ops : Array Oper} {l : List DI} (hr : regDraw P n trk ops U l = some l) : ∀ i, i < ops.size → ∀ p ∈ preds ops i, p < i := by
  unfold regDraw at hr
  split at hr
  · rename_i hc
    simp only [Bool.and_eq_true, beq_iff_eq, List.all_eq_true, decide_eq_true_eq, List.mem_range] at hc
    exact fun i hi p hp => hc.2 i hi p hp
  · cases hr
theorem tree_hac {n trk : Nat} {ops : Array Oper} : ∀ {t : DT} {U : List (Nat × Nat)}, regTree P n trk ops U t = some t → ∀ i, i < ops.size → ∀ p ∈ preds ops i, p < i
  | .leaf l, U, hr => by
    simp only [regTree, Option.map_eq_some_iff, DT.leaf.injEq] at hr
    obtain ⟨l', h1, rfl⟩ := hr
    exact regDraw_hac h1
  | .split a b x y, U, hr => by
    simp only [regTree] at hr
    split at hr
    · split at hr
      · rename_i x' y' hx hy
        simp only [Option.some.injEq, DT.split.injEq, true_and] at hr
        obtain ⟨rfl, rfl⟩ := hr
        exact tree_hac hx
      · cases hr
    · cases hr
end Go.Md
end
section
/- FRAMES THAT RUN, FRAMES THAT WAIT; the call's end. No condition. -/
namespace Go.Md
variable {P : Program} {ft : FT} {B : Nat} {w0 w w' : World} {ρ ρ' : Rho} {h h' : T AO} {nx nx' : Nat}

/-- running -/
inductive FR (P : Program) (ft : FT) (ρ : Rho) (h : T AO) (a : AF) (b : Frame) (act : Act) : List Item → Prop
  | plain {df todo} : FP P ft ρ a b act todo df → FR P ft ρ h a b act todo
  | dr {df U l k k' ops done rest} : FB ρ a b act → ft.get a.fn = some df → a.todo = .dr l :: k → DInv P ρ df.n df.trk ops U done l rest a.tm act.tmps (fun _ q v => evalQ a.tm [] h q = some v) → TRel P ρ df.n df.trk k k' → FR P ft ρ h a b act (.inRegion ops rest :: k')
  | drr {df U re l k k' ops done rest} : FB ρ a b act → ft.get a.fn = some df → a.todo = .drr re l :: k → DInv P ρ df.n df.trk ops U done l rest a.tm act.tmps (okR a.tm h re) → TRel P ρ df.n df.trk k k' → FR P ft ρ h a b act (.inRegion ops rest :: k')

/-- waiting; h: the heap when it goes on -/
inductive FW (P : Program) (ft : FT) (ρ : Rho) (h : T AO) (a : AF) (b : Frame) (act : Act) : List Item → Prop
  | opsw {df d l k ops j o k'} : FB ρ a b act → ft.get a.fn = some df → df.n ≤ act.tmps.size → TmAll ρ df.trk a.tm act.tmps → a.todo = .opsw d l :: k → ops[j]? = some o → keepDst df.n df.trk o.dst = some d →
      regSegs P df.n df.trk ops l (ops.toList.drop (j + 1)) = some l → TRel P ρ df.n df.trk k k' → FW P ft ρ h a b act (.inRegion ops (upFrom ops j) :: k')
  | drw {df U d re l k k' ops done i C} {o : Oper} : FB ρ a b act → ft.get a.fn = some df → a.todo = .drw d re l :: k → ops[i]? = some o → o.dst = d →
      (∀ ρ' v u, ρ.le ρ' → VRel ρ' v u → DInv P ρ' df.n df.trk ops U done l C (putD a.tm d v) (act.put d u).tmps (okR (putD a.tm d v) h re)) → TRel P ρ df.n df.trk k k' → FW P ft ρ h a b act (.inRegion ops (i :: C) :: k')
  | rf {df l g k k'} : FB ρ a b act → ft.get a.fn = some df → df.n ≤ act.tmps.size → TmAll ρ df.trk a.tm act.tmps → a.todo = .rf l :: k → ρ l = some g → TRel P ρ df.n df.trk k k' → FW P ft ρ h a b act (.inRangeFunc g.b :: k')
theorem FW.mono {a : AF} {b : Frame} {act : Act} {todo : List Item} (hr : ρ.le ρ') (H : FW P ft ρ h a b act todo) : FW P ft ρ' h a b act todo := by
  cases H with
  | opsw h1 h2 h3 h4 h5 h6 h7 h8 h9 => exact .opsw (h1.mono hr) h2 h3 (h4.mono hr) h5 h6 h7 h8 (h9.mono hr)
  | drw h1 h2 h3 h4 h5 h6 h7 => exact .drw (h1.mono hr) h2 h3 h4 h5 (fun ρ2 v u h8 h9 => h6 ρ2 v u (hr.trans h8) h9) (h7.mono hr)
  | rf h1 h2 h3 h4 h5 h6 h7 => exact .rf (h1.mono hr) h2 h3 (h4.mono hr) h5 (hr _ _ h6) (h7.mono hr)

theorem put_defers (a : Act) (d : Option Nat) (v : Value) : (a.put d v).defers = a.defers := by cases d <;> rfl
theorem FB.put {a a' : AF} {b : Frame} {act act' : Act} (H : FB ρ a b act) (h1 : a'.fn = a.fn) (h2 : a'.rnd = a.rnd) (h3 : a'.dfs = a.dfs) (h4 : act'.defers = act.defers) : FB ρ a' b act' :=
  ⟨by rw [h1]; exact H.fn, H.kind, by rw [h2]; exact H.rnd, by rw [h3, h4]; exact H.dfs⟩

/-- the call's end -/
theorem finish_ok {a a' : AF} {b : Frame} {act : Act} {todo : List Item} (H : FW P ft ρ h a b act todo) (hr : ρ.le ρ') {v : AV} {u : Value} (hu : VRel ρ' v u) (hf : finish a v = some a') :
    ∃ act' todo', (b.atR act todo).finish u = b.atR act' todo' ∧ FR P ft ρ' h a' b act' todo' ∧ a'.fn = a.fn ∧ a'.rnd = a.rnd ∧ a'.ret = a.ret := by
  cases H with
  | opsw h1 h2 h3 h4 h5 h6 h7 h8 h9 =>
    rename_i df d l k ops j o k'
    unfold finish at hf
    rw [h5] at hf
    simp only [Option.some.injEq] at hf
    subst hf
    have hj : j < ops.size := (Array.getElem?_eq_some_iff.1 h6).1
    refine ⟨act.put o.dst u, .inRegion ops (upFrom ops (j + 1)) :: k', ?_, .plain (df := df) ⟨(h1.mono hr).put rfl rfl rfl (put_defers _ _ _), h2, ?_, ?_, ?_⟩, rfl, rfl, rfl⟩
    · rw [upFrom_lt hj, Frame.finish_atR, h6]
      rfl
    · cases o.dst <;> simpa [Act.put] using h3
    · have := (h4.mono hr).put h3 h7 hu
      cases d <;> exact this
    · cases l with
      | nil =>
        have hnil : ops.toList.drop (j + 1) = [] := by
          cases hd : ops.toList.drop (j + 1) with
          | nil => rfl
          | cons _ _ => rw [hd] at h8; cases h8
        have hge : ops.size ≤ j + 1 := by
          have := List.drop_eq_nil_iff.1 hnil
          simpa using this
        rw [upFrom_ge hge]
        exact .pad (h9.mono hr)
      | cons x l => exact .cons (.ops h8) (h9.mono hr)
  | drw h1 h2 h3 h4 h5 h6 h7 =>
    rename_i df U d re l k k' ops done i C o
    unfold finish at hf
    rw [h3] at hf
    simp only [Option.some.injEq] at hf
    subst hf
    refine ⟨act.put d u, .inRegion ops C :: k', ?_, .drr (df := df) ((h1.mono hr).put rfl rfl rfl (put_defers _ _ _)) h2 rfl (h6 ρ' v u hr hu) (h7.mono hr), rfl, rfl, rfl⟩
    rw [Frame.finish_atR, h4]
    simp [h5]
  | rf h1 h2 h3 h4 h5 h6 h7 =>
    rename_i df l g k k'
    unfold finish at hf
    rw [h5] at hf
    simp only [Option.some.injEq] at hf
    subst hf
    exact ⟨act, .endRangeFunc g.b :: k', rfl, .plain (df := df) ⟨(h1.mono hr).put rfl rfl rfl rfl, h2, h3, h4.mono hr, .cons (.endrf (hr _ _ h6)) (h7.mono hr)⟩, rfl, rfl, rfl⟩

inductive KR (P : Program) (ft : FT) (ρ : Rho) : List AF → List Frame → Prop
  | nil : KR P ft ρ [] []
  | cons {c cs b act todo ms} : (∀ h, FW P ft ρ h c b act todo) → c.ret = false → KR P ft ρ cs ms → KR P ft ρ (c :: cs) (b.atR act todo :: ms)
theorem KR.mono (hr : ρ.le ρ') {cs : List AF} {ms : List Frame} (H : KR P ft ρ cs ms) : KR P ft ρ' cs ms := by
  induction H with
  | nil => exact .nil
  | cons h1 h2 _ ih => exact .cons (fun h => (h1 h).mono hr) h2 ih

def rootRnd : AF → List AF → Option Nat
  | a, [] => a.rnd
  | _, c :: cs => rootRnd c cs
def rootFn : AF → List AF → Nat
  | a, [] => a.fn
  | _, c :: cs => rootFn c cs
theorem rootRnd_eq {a a' : AF} (h : a'.rnd = a.rnd) : ∀ cs, rootRnd a' cs = rootRnd a cs
  | [] => h
  | _ :: _ => rfl
theorem rootFn_eq {a a' : AF} (h : a'.fn = a.fn) : ∀ cs, rootFn a' cs = rootFn a cs
  | [] => h
  | _ :: _ => rfl

/-- returning -/
structure FT' (P : Program) (ft : FT) (ρ : Rho) (a : AF) (b : Frame) (act : Act) : Prop where
  fb : FB ρ a b act
  df : ∃ df, ft.get a.fn = some df ∧ df.n ≤ act.tmps.size ∧ TmAll ρ df.trk a.tm act.tmps

/-- A STATE OF D AND ONE OF THE MODEL -/
structure Sim (P : Program) (ft : FT) (B : Nat) (w0 : World) (cs0 : List Frame) (rf : Nat) (ρ : Rho) (s : St) (m : Machine) : Prop where
  ex : ∃ b act todo ms w, m = lone (if s.fr.ret then { b.atR act todo with mode := .returning } else b.atR act todo) (ms ++ cs0) w ∧ Rel P ft B w0 ρ s.h s.nx w ∧
    (s.fr.ret = false → FR P ft ρ s.h s.fr b act todo) ∧ (s.fr.ret = true → FT' P ft ρ s.fr b act) ∧ KR P ft ρ s.cs ms
  rnd : rootRnd s.fr s.cs = none
  fn : rootFn s.fr s.cs = rf

/-- what a step of D answers, the model comes to -/
def Come (P : Program) (ft : FT) (B : Nat) (w0 : World) (cs0 : List Frame) (rf : Nat) (ρ : Rho) (m : Machine) : Res → Prop
  | .go s => ∃ ρ' m', ρ.le ρ' ∧ Steps P m m' ∧ Sim P ft B w0 cs0 rf ρ' s m'
  | .fork l => ∃ s ∈ l, ∃ ρ' m', ρ.le ρ' ∧ Steps P m m' ∧ Sim P ft B w0 cs0 rf ρ' s m'
  | .done v h nx => ∃ ρ' fr w u, ρ.le ρ' ∧ Steps P m (lone fr cs0 w) ∧ fr.fn = rf ∧ fr.leaving P w (.returned u) ∧ VRel ρ' v u ∧ Rel P ft B w0 ρ' h nx w
  | .bad => True
theorem Come.of_steps {cs0 : List Frame} {rf : Nat} {m m' : Machine} (hs : Steps P m m') {r : Res} (H : Come P ft B w0 cs0 rf ρ m' r) : Come P ft B w0 cs0 rf ρ m r := by
  cases r with
  | go s => obtain ⟨ρ', m2, h1, h2, h3⟩ := H; exact ⟨ρ', m2, h1, hs.trans h2, h3⟩
  | fork l => obtain ⟨s, hm, ρ', m2, h1, h2, h3⟩ := H; exact ⟨s, hm, ρ', m2, h1, hs.trans h2, h3⟩
  | done v h nx => obtain ⟨ρ', fr, w, u, h1, h2, h3⟩ := H; exact ⟨ρ', fr, w, u, h1, hs.trans h2, h3⟩
  | bad => trivial
theorem Come.le {cs0 : List Frame} {rf : Nat} {m : Machine} (hr : ρ.le ρ') {r : Res} (H : Come P ft B w0 cs0 rf ρ' m r) : Come P ft B w0 cs0 rf ρ m r := by
  cases r with
  | go s => obtain ⟨ρ2, m2, h1, h2⟩ := H; exact ⟨ρ2, m2, hr.trans h1, h2⟩
  | fork l => obtain ⟨s, hm, ρ2, m2, h1, h2⟩ := H; exact ⟨s, hm, ρ2, m2, hr.trans h1, h2⟩
  | done v h nx => obtain ⟨ρ2, fr, w, u, h1, h2⟩ := H; exact ⟨ρ2, fr, w, u, hr.trans h1, h2⟩
  | bad => trivial
end Go.Md
end
section
/- CALLS: a frame entered, a round entered, an operation finished. No condition. -/
namespace Go.Md
variable {P : Program} {ft : FT} {B : Nat} {w0 w w' : World} {ρ ρ' : Rho} {h h' : T AO} {nx nx' : Nat} {cs0 : List Frame} {rf : Nat}

theorem come_finish {fr : AF} {b : Frame} {act : Act} {todo : List Item} (hW : FW P ft ρ h fr b act todo) (hret : fr.ret = false) {cs : List AF} {ms : List Frame} (K : KR P ft ρ cs ms) (h1 : rootRnd fr cs = none) (h2 : rootFn fr cs = rf)
    (hr : ρ.le ρ') (R : Rel P ft B w0 ρ' h nx w) {v : AV} {u : Value} (hu : VRel ρ' v u) :
    Come P ft B w0 cs0 rf ρ (lone ((b.atR act todo).finish u) (ms ++ cs0) w) (match finish fr v with
      | some fr => .go { fr, cs, h, nx }
      | none => .bad) := by
  cases hf : finish fr v with
  | none => trivial
  | some fr' =>
    obtain ⟨act', todo', e1, e2, e3, e4, e5⟩ := finish_ok hW hr hu hf
    refine ⟨ρ', _, hr, Steps.refl _ _, ⟨b, act', todo', ms, w, ?_, R, fun _ => e2, fun ht => ?_, K.mono hr⟩, ?_, ?_⟩
    · rw [e1]
      show _ = lone (if fr'.ret then _ else _) _ _
      rw [e5, hret]; rfl
    · change fr'.ret = true at ht
      rw [e5, hret] at ht; cases ht
    · show rootRnd fr' cs = none
      rw [rootRnd_eq e4]; exact h1
    · show rootFn fr' cs = rf
      rw [rootFn_eq e3]; exact h2

/-- a function is entered -/
theorem enter_ok (hft : CodeOk P ft) {fr : AF} {b : Frame} {act : Act} {todo : List Item} (hW : ∀ h, FW P ft ρ h fr b act todo) (hret : fr.ret = false) {cs : List AF} {ms : List Frame} (K : KR P ft ρ cs ms) (h1 : rootRnd fr cs = none) (h2 : rootFn fr cs = rf)
    (R : Rel P ft B w0 ρ h nx w) {f : Nat} {args : List AV} {us : List Value} (ha : VRelL ρ args us) :
    Come P ft B w0 cs0 rf ρ (lone (Frame.enter P f us.toArray .normal) (b.atR act todo :: (ms ++ cs0)) w) (enter ft fr cs h nx f args) := by
  unfold enter
  cases hdf : ft.get f with
  | none => trivial
  | some df =>
    obtain ⟨fn, hfn, hreg⟩ := hft f df hdf
    have hreg0 := hreg
    unfold regFn at hreg
    split at hreg
    · cases hreg
    · split at hreg
      · rename_i c hc
        split at hreg
        · rename_i body res hb hres
          simp only [Option.some.injEq] at hreg
          have hn : df.n = fn.ntmps := by rw [← hreg]
          have hbody : df.body = body := by rw [← hreg]
          let nb : Frame := { (default : Frame) with fn := f, kind := .normal }
          let na : Act := { tmps := us.toArray ++ Array.replicate (fn.ntmps - us.toArray.size) undef, defers := [] }
          have henter : Frame.enter P f us.toArray .normal = nb.atR na [.code c] := by
            simp [Frame.enter, Frame.atR, hfn, hc, nb, na]
            rfl
          refine ⟨ρ, _, Rho.le.refl ρ, Steps.refl _ _, ⟨nb, na, [.code c], b.atR act todo :: ms, w, ?_, R, fun _ => .plain (df := df) ⟨⟨rfl, rfl, trivial, trivial⟩, hdf, ?_, ?_, .cons (.c ?_) .nil⟩, fun ht => (by cases ht), .cons hW hret K⟩, h1, h2⟩
          · rw [henter]; rfl
          · rw [hn]
            show fn.ntmps ≤ (us.toArray ++ Array.replicate (fn.ntmps - us.toArray.size) undef).size
            simp
            omega
          · intro t v _ hv
            have hget := treeOf_get args t v hv
            obtain ⟨u, hu1, hu2⟩ := ha.get t v hget
            show VRel ρ v ((us.toArray ++ Array.replicate (fn.ntmps - us.toArray.size) undef).getD t undef)
            have hlt : t < us.length := (List.getElem?_eq_some_iff.1 hu1).1
            have : (us.toArray ++ Array.replicate (fn.ntmps - us.toArray.size) undef).getD t undef = u := by
              rw [Array.getD_eq_getD_getElem?, Array.getElem?_append_left (by simpa using hlt)]
              simp [hu1]
            rw [this]; exact hu2
          · rw [hn, hbody]
            have : regCode P fn.ntmps df.trk c df.body = some df.body := by rw [hb, hbody]
            rw [hbody] at this
            exact this
        · cases hreg
      · cases hreg

theorem run_callFunc_go {f : FuncId} {fn : Func} {args : Array Value} (hf : P.funcs[f]? = some fn) (hn : (fn.name == "runtime.NumGoroutine") = false) (hb : fn.body.isSome = true) : (callFunc f args).run P w = .ok (.enter f args) w := by
  have hb' : fn.body ≠ none := by intro h; rw [h] at hb; cases hb
  have hn' : fn.name ≠ "runtime.NumGoroutine" := by simpa using hn
  simp [callFunc, hf, hn', hb']
theorem regFn_go {fn : Func} {df : DF} (h : regFn P fn df = some df) : (fn.name == "runtime.NumGoroutine") = false ∧ fn.body.isSome = true := by
  unfold regFn at h
  split at h
  · cases h
  · rename_i hn
    split at h
    · rename_i c hc
      exact ⟨by simpa using hn, by rw [hc]; rfl⟩
    · cases h

def BigOk (P : Program) (ft : FT) (B : Nat) (w0 : World) (big : Big) : Prop :=
  ∀ f hd, big.get f = some hd → (∃ fn, P.funcs[f]? = some fn ∧ (fn.name == "runtime.NumGoroutine") = false ∧ fn.body.isSome = true) ∧
    ∀ ρ h nx w args us v h' nx', Rel P ft B w0 ρ h nx w → VRelL ρ args us → hd args h nx = some (v, h', nx') →
      Calls P f us.toArray w fun e w' => ∃ u ρ', e = .returned u ∧ ρ.le ρ' ∧ VRel ρ' v u ∧ Rel P ft B w0 ρ' h' nx' w'

/-- a function is called: met as a whole, or entered -/
theorem callFn_ok (hft : CodeOk P ft) {big : Big} (hbig : BigOk P ft B w0 big) {fr : AF} {b : Frame} {act : Act} {todo : List Item} (hW : ∀ h, FW P ft ρ h fr b act todo) (hret : fr.ret = false) {cs : List AF} {ms : List Frame} (K : KR P ft ρ cs ms) (h1 : rootRnd fr cs = none) (h2 : rootFn fr cs = rf)
    (R : Rel P ft B w0 ρ h nx w) {f : Nat} {args : List AV} {us : List Value} (ha : VRelL ρ args us) {m : Machine}
    (hm : ∀ fn, P.funcs[f]? = some fn → (fn.name == "runtime.NumGoroutine") = false → fn.body.isSome = true → Steps P m (lone (Frame.enter P f us.toArray .normal) (b.atR act todo :: (ms ++ cs0)) w)) :
    Come P ft B w0 cs0 rf ρ m (callFn ft big fr cs h nx f args) := by
  have hent : Come P ft B w0 cs0 rf ρ m (enter ft fr cs h nx f args) := by
    cases hdf : ft.get f with
    | none => simp only [enter, hdf]; trivial
    | some df =>
      obtain ⟨fn, hfn, hreg⟩ := hft f df hdf
      obtain ⟨g1, g2⟩ := regFn_go hreg
      exact Come.of_steps (hm fn hfn g1 g2) (enter_ok hft hW hret K h1 h2 R ha)
  unfold callFn
  cases hb : big.get f with
  | none => exact hent
  | some hd =>
    simp only
    obtain ⟨⟨fn, hfn, g1, g2⟩, hc⟩ := hbig f hd hb
    cases hh : hd args h nx with
    | none => exact hent
    | some r =>
      obtain ⟨v, h', nx'⟩ := r
      simp only
      obtain ⟨e, w', fr', hR, hs, hfn', hleave⟩ := hc ρ h nx w args us v h' nx' R ha hh (b.atR act todo :: (ms ++ cs0))
      obtain ⟨u, ρ', rfl, hle, hu, R'⟩ := hR
      refine Come.of_steps ((hm fn hfn g1 g2).trans ((show Steps P _ _ from hs).trans (.one (step_leave_returned hleave)))) ?_
      exact come_finish (hW h') hret K h1 h2 hle R' hu
end Go.Md
end
section
/- CALLS OF VALUES, ROUNDS. No condition. -/
namespace Go.Md
variable {P : Program} {ft : FT} {B : Nat} {w0 w w' : World} {ρ ρ' : Rho} {h h' : T AO} {nx nx' : Nat} {cs0 : List Frame} {rf : Nat}

theorem setParams_ok {trk : Nat} : ∀ {ps : List Nat} {args : List AV} {tm tm' : T AV} {us : List Value} {tmps : Array Value}, setParams tm ps args = some tm' → VRelL ρ args us → TmAll ρ trk tm tmps → (∀ t ∈ ps, t < tmps.size) →
    us.length = ps.length ∧ TmAll ρ trk tm' ((ps.zip us).foldl (fun tmps (x : Nat × Value) => tmps.setIfInBounds x.1 x.2) tmps) ∧ ((ps.zip us).foldl (fun tmps (x : Nat × Value) => tmps.setIfInBounds x.1 x.2) tmps).size = tmps.size
  | [], [], tm, tm', us, tmps, h, ha, H, _ => by cases h; cases ha; exact ⟨rfl, H, rfl⟩
  | [], _ :: _, tm, tm', us, tmps, h, ha, H, _ => by simp [setParams] at h
  | _ :: _, [], tm, tm', us, tmps, h, ha, H, _ => by simp [setParams] at h
  | t :: ps, v :: args, tm, tm', us, tmps, h, ⟨u, us', e, h1, h2⟩, H, hs => by
    subst e
    simp only [setParams] at h
    have ht := hs t (by simp)
    have H' : TmAll ρ trk (tm.set t v) (tmps.setIfInBounds t u) := by
      intro s x hs' hx
      rw [T.get_set] at hx
      split at hx
      · rename_i e
        subst e
        cases hx
        rw [getD_set u ht]; exact h1
      · rename_i e
        rw [getD_set_other u e]
        exact H s x hs' hx
    obtain ⟨a1, a2, a3⟩ := setParams_ok h h2 H' (fun s hs2 => by simpa using hs s (by simp [hs2]))
    exact ⟨by simp [a1], by simpa using a2, by simpa using a3⟩

/-- the loop's object -/
theorem Rel.loop (R : Rel P ft B w0 ρ h nx w) {id fn st dfr : Nat} {tm : T AV} {ps : List Nat} {asg body : DC} {pend : Option DC} (hg : h.get id = some (.loop fn tm ps asg body st pend dfr)) {g : Gh} (hρ : ρ id = some g) :
    B ≤ g.b ∧ ORel P ft ρ w g (.loop fn tm ps asg body st pend dfr) := by
  obtain ⟨ho, hB⟩ := R.at hg hρ
  rcases hB with hB | hB
  · simp [isRo] at hB
  · exact ⟨hB, ho⟩

theorem run_getLoop {b : Nat} {r : Loop} (hb : w.heap[b]? = some (.loop r)) : (Instr.getLoop b).run P w = .ok r w := by
  simp [Instr.getLoop, getObj, Sem.run, hb]

/-- a round is entered -/
theorem round_ok (hft : CodeOk P ft) {fr : AF} {b : Frame} {act : Act} {todo : List Item} (hW : ∀ h, FW P ft ρ h fr b act todo) (hret : fr.ret = false) {cs : List AF} {ms : List Frame} (K : KR P ft ρ cs ms) (h1 : rootRnd fr cs = none) (h2 : rootFn fr cs = rf)
    (R : Rel P ft B w0 ρ h nx w) {l : Nat} {args : List AV} {us : List Value} (ha : VRelL ρ args us) {g : Gh} (hρ : ρ l = some g) {m : Machine}
    (hm : ∀ f tmps asg body, (Instr.yield g.b us.toArray).run P w = .ok (.round g.b f tmps asg body) w → Steps P m (lone (Frame.round g.b f tmps asg body .normal) (b.atR act todo :: (ms ++ cs0)) w)) :
    Come P ft B w0 cs0 rf ρ m (match h.get l with
      | some (.loop fn tm ps asg body _ _ _) => (match setParams tm ps args with
        | some tm => .go { fr := { fn, tm, todo := [.c asg, .br, .c body], rnd := some l, dfs := [], ret := false }, cs := fr :: cs, h, nx }
        | none => .bad)
      | _ => .bad) := by
  cases hg : h.get l with
  | none => trivial
  | some o =>
    cases o <;> try trivial
    rename_i fn tm ps asg body st pend dfr
    simp only
    cases hsp : setParams tm ps args with
    | none => trivial
    | some tm' =>
      simp only
      obtain ⟨hB, r, hb, hst, hst4, hpend, hfn, htm, hps, hasg, hbody, hdfr, hsize, htrk⟩ := R.loop hg hρ
      obtain ⟨df, hdf, htm⟩ := htm
      obtain ⟨fnn, hfnn, hreg⟩ := hft fn df hdf
      have hn : df.n = fnn.ntmps := by
        unfold regFn at hreg
        split at hreg
        · cases hreg
        · split at hreg
          · split at hreg
            · simp only [Option.some.injEq] at hreg; rw [← hreg]
            · cases hreg
          · cases hreg
      have hsz := hsize fnn hfnn
      have hlt := htrk df hdf
      obtain ⟨k1, k2, k3⟩ := setParams_ok (trk := df.trk) hsp ha htm (fun t ht => by have := hlt t ht; omega)
      obtain ⟨df1, fn1, c1, c2, c3⟩ := hasg
      obtain ⟨df2, fn2, d1, d2, d3⟩ := hbody
      rw [hdf] at c1 d1; cases c1; cases d1
      rw [hfnn] at c2 d2; cases c2; cases d2
      subst hps
      let T := (r.params.toList.zip us).foldl (fun tmps (x : Nat × Value) => tmps.setIfInBounds x.1 x.2) r.tmps
      have hy : (Instr.yield g.b us.toArray).run P w = .ok (.round g.b fn T r.assign r.body) w := by
        have e1 : (r.params.zip us.toArray).foldl (fun tmps (x : Nat × Value) => tmps.setIfInBounds x.1 x.2) r.tmps = T := by
          rw [← Array.foldl_toList]
          simp [T]
        have e2 : us.length = r.params.size := by rw [k1]; simp
        simp only [Instr.yield, Sem.run_bind, run_getLoop hb, Result.andThen_ok]
        rw [if_neg (by simp [e2]), hfn]
        simp only [Sem.run_bind, Sem.run_pure, Result.andThen_ok]
        rw [← e1]
      let nb : Frame := { (default : Frame) with fn := fn, kind := .normal, roundOf := some g.b }
      refine Come.of_steps (hm _ _ _ _ hy) ⟨ρ, _, Rho.le.refl ρ, Steps.refl _ _, ⟨nb, { tmps := T, defers := [] }, [.code r.assign, .beginRound, .code r.body], b.atR act todo :: ms, w, rfl, R, fun _ => .plain (df := df) ⟨⟨rfl, rfl, ⟨g, hρ, rfl⟩, trivial⟩, hdf, ?_, k2, .cons (.c ?_) (.cons .br (.cons (.c ?_) .nil))⟩, fun ht => (by cases ht), .cons hW hret K⟩, h1, h2⟩
      · show df.n ≤ T.size
        rw [k3, hn]; exact hsz
      · rw [hn]; exact c3
      · rw [hn]; exact d3
end Go.Md
end
section
/- A SEGMENT'S LAST OPERATION. No condition. -/
namespace Go.Md
variable {P : Program} {ft : FT} {B : Nat} {w0 w w' : World} {ρ ρ' : Rho} {h h' : T AO} {nx nx' : Nat} {cs0 : List Frame} {rf : Nat}

/-- a function value is called -/
theorem callVal_ok (hft : CodeOk P ft) {big : Big} (hbig : BigOk P ft B w0 big) {fr : AF} {b : Frame} {act : Act} {todo : List Item} (hW : ∀ h, FW P ft ρ h fr b act todo) (hret : fr.ret = false) {cs : List AF} {ms : List Frame} (K : KR P ft ρ cs ms) (h1 : rootRnd fr cs = none) (h2 : rootFn fr cs = rf)
    (R : Rel P ft B w0 ρ h nx w) {f : AV} {fv : Value} (hf : VRel ρ f fv) {args : List AV} {us : List Value} (ha : VRelL ρ args us) {m : Machine}
    (hm1 : ∀ f2 us2, (do let d ← Deferred.ofValue fv us.toArray; invoke d.target d.args : Sem Next).run P w = .ok (.enter f2 us2) w → Steps P m (lone (Frame.enter P f2 us2 .normal) (b.atR act todo :: (ms ++ cs0)) w))
    (hm2 : ∀ l f2 tmps asg body, (do let d ← Deferred.ofValue fv us.toArray; invoke d.target d.args : Sem Next).run P w = .ok (.round l f2 tmps asg body) w → Steps P m (lone (Frame.round l f2 tmps asg body .normal) (b.atR act todo :: (ms ++ cs0)) w)) :
    Come P ft B w0 cs0 rf ρ m (callVal ft big fr cs h nx f args) := by
  cases f <;> try trivial
  case fv fn first cap =>
    obtain ⟨fa, ca, rfl, hfa, hca⟩ := hf
    simp only [callVal]
    refine callFn_ok hft hbig hW hret K h1 h2 R (hfa.append (ha.append hca)) fun fn' hfn g1 g2 => hm1 _ _ ?_
    have e1 : fa.toArray ++ us.toArray ++ ca.toArray = (fa ++ (us ++ ca)).toArray := by simp
    simp only [Deferred.ofValue, Sem.run_bind, Sem.run_pure, Result.andThen_ok, invoke]
    rw [e1]
    exact run_callFunc_go hfn g1 g2
  case fy l =>
    obtain ⟨g, hρ, rfl⟩ := hf
    simp only [callVal]
    refine round_ok hft hW hret K h1 h2 R ha hρ fun f tmps asg body hy => hm2 _ _ _ _ _ ?_
    simp only [Deferred.ofValue, Sem.run_bind, Sem.run_pure, Result.andThen_ok, invoke]
    simpa using hy
end Go.Md
end
section
/- A SEGMENT'S LAST OPERATION: 'doFin'. -/
namespace Go.Md
variable {P : Program} {ft : FT} {B : Nat} {w0 w w' : World} {ρ ρ' : Rho} {h h' : T AO} {nx nx' : Nat} {cs0 : List Frame} {rf : Nat}

theorem finish_put {b : Frame} {a : Act} {ops : Array Oper} {i : Nat} {rest : List Nat} {k : List Item} {o : Oper} (ho : ops[i]? = some o) (v : Value) :
    b.atR (a.put o.dst v) (.inRegion ops rest :: k) = (b.atR a (.inRegion ops (i :: rest) :: k)).finish v := by rw [Frame.finish_atR, ho]; rfl

theorem doFin_ok (hft : CodeOk P ft) {big : Big} (hbig : BigOk P ft B w0 big) {fr : AF} {b : Frame} {act : Act} {ops : Array Oper} {i : Nat} {rest : List Nat} {k' : List Item} {o : Oper} {f : Fin} (hnx : ∀ d x, f ≠ .nx d x)
    (hW : isQs f = false → ∀ hh, FW P ft ρ hh fr b act (.inRegion ops (i :: rest) :: k')) (hWq : FW P ft ρ h fr b act (.inRegion ops (i :: rest) :: k')) (ho : ops[i]? = some o)
    (hret : fr.ret = false) {cs : List AF} {ms : List Frame} (K : KR P ft ρ cs ms) (h1 : rootRnd fr cs = none) (h2 : rootFn fr cs = rf) (R : Rel P ft B w0 ρ h nx w)
    {n trk : Nat} {tm : T AV} {Δ : List (Option Nat)} {env : List AV} (hx : ∀ x : Operand, (∀ t, x = .tmp t → t ∈ looks ops o) → XOk P ρ trk tm Δ env act x) (hr : regFin P n trk ops Δ o f = some f) :
    Come P ft B w0 cs0 rf ρ (lone (b.atR act (.inRegion ops (i :: rest) :: k')) (ms ++ cs0) w) (doFin ft big tm env fr cs h nx f) := by
  have hgx : ∀ j w t, o.guard = some (j, w) → (ops[j]?).bind (·.dst) = some t → XOk P ρ trk tm Δ env act (.tmp t) := fun j w t hg ht => hx _ fun t' e => by cases e; exact mem_looks.2 (.inr ⟨j, w, hg, ht⟩)
  have unwanted : Region.wanted o (yielded ops act.tmps) = false → Come P ft B w0 cs0 rf ρ (lone (b.atR act (.inRegion ops (i :: rest) :: k')) (ms ++ cs0) w) (match finish fr .undef with
      | some fr => .go { fr, cs, h, nx }
      | none => .bad) := by
    intro hw
    refine Come.of_steps (.one (step_unwanted ho hw)) ?_
    rw [finish_put ho]
    exact come_finish hWq hret K h1 h2 (Rho.le.refl ρ) R rfl
  cases f with
  | nop => cases hr
  | nx d x => exact absurd rfl (hnx d x)
  | qs d q =>
    simp only [regFin] at hr
    split at hr
    · rename_i d' q' hd hq
      cases hr
      simp only [doFin]
      cases hv : evalQ tm env h q with
      | none => trivial
      | some v =>
        simp only
        obtain ⟨u, hu, hs⟩ := q_step R ho hq (fun k xs hc x hxm => hx x fun t e => by subst e; exact mem_looks.2 (.inl (compQ_operands hc hxm))) hgx hv b rest k' (ms ++ cs0)
        refine Come.of_steps (.one hs) ?_
        rw [finish_put ho]
        exact come_finish hWq hret K h1 h2 (Rho.le.refl ρ) R hu
    · cases hr
  | s d g k xs =>
    simp only [regFin] at hr
    split at hr
    · rename_i k2 xs2 hc
      split at hr
      · rename_i d' xs3 g' hd hxs hg
        cases hr
        simp only [doFin]
        cases hgo : guardOk tm env g with
        | none => trivial
        | some bb =>
          have hw := guard_ok hg hgx hgo
          cases bb with
          | false => exact unwanted hw
          | true =>
            simp only
            cases hvs : evalXs tm env xs with
            | none => trivial
            | some vs =>
              simp only
              cases hq : sop k vs h nx with
              | none => trivial
              | some r =>
                obtain ⟨v, h', nx'⟩ := r
                simp only
                have hrel := mapXs_ok (fun x hxm => hx x fun t e => by subst e; exact mem_looks.2 (.inl (compS_operands hc hxm))) hxs hvs
                obtain ⟨ρ', w', u, nn, e1, e2, e3, e4, e5⟩ := sop_ok R hc hrel hq
                have hstep : Go.step P (lone (b.atR act (.inRegion ops (i :: rest) :: k')) (ms ++ cs0) w) = .next (lone ((b.atR act (.inRegion ops (i :: rest) :: k')).finish u) (ms ++ cs0) w') := by
                  rcases e3 with rfl | ⟨rfl, rfl⟩
                  · rw [step_value ho hw (compS_nd hc) e2, finish_put ho]
                  · rw [step_skipped ho hw (compS_nd hc) e2, finish_put ho]
                exact Come.of_steps (.one hstep) (come_finish (hW rfl h') hret K h1 h2 e1 e5 e4)
      · cases hr
    · cases hr
  | call d g f xs =>
    simp only [regFin] at hr
    split at hr
    · rename_i fc args at_ hop
      split at hr
      · rename_i d' xs3 g' hd hxs hg
        cases hr
        simp only [doFin]
        cases hgo : guardOk tm env g with
        | none => trivial
        | some bb =>
          have hw := guard_ok hg hgx hgo
          cases bb with
          | false => exact unwanted hw
          | true =>
            simp only
            cases hvs : evalXs tm env xs with
            | none => trivial
            | some vs =>
              simp only
              have hnd : ∀ c, o.op ≠ .defer c := fun c e => by rw [hop] at e; cases e
              have hrel := mapXs_ok (fun x hxm => hx x fun t e => by
                subst e
                refine mem_looks.2 (.inl ?_)
                rw [hop]
                simp only [Op.operands, Call.operands, Array.toList_append]
                exact List.mem_append.2 (.inr hxm)) hxs hvs
              refine callFn_ok hft hbig (hW rfl) hret K h1 h2 R hrel fun fn hfn g1 g2 => .one (step_enters ho hw hnd ?_)
              have ha : args.map act.eval = (args.toList.map act.eval).toArray := by apply Array.ext'; simp
              simp only [execOp, hop, resolve, Act.eval, Deferred.ofValue, Sem.run_bind, Sem.run_pure, Result.andThen_ok, invoke]
              have e0 : (#[] : Array Value) ++ args.map act.eval ++ #[] = (args.toList.map act.eval).toArray := by simp [ha]
              rw [e0]
              exact run_callFunc_go hfn g1 g2
      · cases hr
    · cases hr
  | callv d g x xs =>
    simp only [regFin] at hr
    split at hr
    · rename_i t args at_ hop
      split at hr
      · rename_i d' x3 xs3 g' hd hxx hxs hg
        cases hr
        simp only [doFin]
        cases hgo : guardOk tm env g with
        | none => trivial
        | some bb =>
          have hw := guard_ok hg hgx hgo
          cases bb with
          | false => exact unwanted hw
          | true =>
            simp only
            cases hfv : evalX tm env x with
            | none => trivial
            | some fv =>
              simp only
              cases hvs : evalXs tm env xs with
              | none => trivial
              | some vs =>
                simp only
                have hnd : ∀ c, o.op ≠ .defer c := fun c e => by rw [hop] at e; cases e
                have hrel := mapXs_ok (fun x hxm => hx x fun t e => by
                  subst e
                  refine mem_looks.2 (.inl ?_)
                  rw [hop]
                  simp only [Op.operands, Call.operands, Array.toList_append]
                  exact List.mem_append.2 (.inr hxm)) hxs hvs
                have hfr := hx (.tmp t) (fun t' e => by
                  cases e
                  refine mem_looks.2 (.inl ?_)
                  rw [hop]
                  simp only [Op.operands, Call.operands, Array.toList_append]
                  exact List.mem_append.2 (.inl (by simp))) x fv hxx hfv
                have ha : args.map act.eval = (args.toList.map act.eval).toArray := by apply Array.ext'; simp
                have hex : (execOp act.eval o).run P w = (do let d ← Deferred.ofValue (act.eval (.tmp t)) (args.toList.map act.eval).toArray; invoke d.target d.args : Sem Next).run P w := by
                  simp only [execOp, hop, resolve, ha]
                refine callVal_ok hft hbig (hW rfl) hret K h1 h2 R hfr hrel (fun f2 us2 hrun => .one (step_enters ho hw hnd (hex.trans hrun))) (fun l f2 tmps asg body hrun => .one (step_rounds ho hw hnd (hex.trans hrun)))
      · cases hr
    · cases hr
end Go.Md
end
