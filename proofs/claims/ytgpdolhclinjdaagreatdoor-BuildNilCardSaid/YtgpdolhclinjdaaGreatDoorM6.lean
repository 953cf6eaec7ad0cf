import Derived.Laws.Externs
import Derived.Test.YtgpdolhclinjdaaGreatDoorM5
set_option linter.unusedVariables false
set_option linter.unusedSimpArgs false
set_option linter.unusedSectionVars false
section
/- THE QUIET OPERATIONS: ALL OF THEM. If D's 'qop' answers v for what 'compQ' makes of an operation, the model's operation answers a value that v stands for, and the world stays. No condition. -/
namespace Go.Md
variable {P : Program} {ft : FT} {B : Nat} {w0 w : World} {ρ : Rho} {h : T AO} {nx : Nat}

theorem run_asAddr (a : Addr) : (Instr.sureAddr (.pointer (some a))).run P w = .ok a w := rfl

theorem ld_ok (R : Rel P ft B w0 ρ h nx w) {t : TypeId} {d : TypeDesc} (hu : P.underlying t = some d) (ha : isAgg? P t = false) {vs : List AV} {v : AV} (hq : qLd1 vs h = some v) {us : List Value} (hv : VRelL ρ vs us) :
    ∃ x u, us = [x] ∧ (Instr.loadAt t x).run P w = .ok u w ∧ VRel ρ v u := by
  unfold qLd1 at hq
  split at hq
  · obtain ⟨x, rfl, hx⟩ := VRelL.one hv
    obtain ⟨g, hρ, rfl⟩ := hx
    obtain ⟨u, hc, hr⟩ := load1_ok R hq hρ
    exact ⟨_, u, rfl, by simp [Instr.loadAt, run_asAddr, loadVar, run_agg_f hu ha, hc], hr⟩
  · cases hq

theorem ldn_ok (R : Rel P ft B w0 ρ h nx w) {t : TypeId} {n : Nat} (ha : isAgg? P t = true) (hs : szOf P t = some n) {vs : List AV} {v : AV} (hq : qLdn n vs h = some v) {us : List Value} (hv : VRelL ρ vs us) :
    ∃ x u, us = [x] ∧ (Instr.loadAt t x).run P w = .ok u w ∧ VRel ρ v u := by
  unfold qLdn at hq
  split at hq
  · rename_i id off
    obtain ⟨x, rfl, hx⟩ := VRelL.one hv
    obtain ⟨g, hρ, rfl⟩ := hx
    split at hq
    · rename_i l hl
      cases hq
      obtain ⟨cs, hr, hlen, hc⟩ := loadCells_ok R hl hρ
      have := run_loadCells_at (P := P) hc
      rw [hlen] at this
      exact ⟨_, .agg cs.toArray, rfl, by simp [Instr.loadAt, run_asAddr, loadVar, run_agg_t ha, run_size hs, this], cs, rfl, hr⟩
    · cases hq
  · cases hq

theorem min_ok {k : IntKind} : ∀ {vs : List AV} {x : Int} {v : AV} {us : List Value}, minGo k x vs = some v → VRelL ρ vs us → ∃ u, (us.foldlM Builtin.min2 (.int k x)).run P w = .ok u w ∧ VRel ρ v u
  | [], x, v, us, hq, hv => by cases hq; cases hv; exact ⟨.int k x, by simp, rfl⟩
  | y :: r, x, v, us, hq, hv => by
    obtain ⟨u, s, rfl, h1, h2⟩ := hv
    unfold minGo at hq
    split at hq
    · rename_i h0; cases h0
    · rename_i k' y' r' h0
      cases h0
      split at hq
      · rename_i hk
        have := (kEq_iff _ _).1 hk
        subst this
        cases h1
        obtain ⟨u, h3, h4⟩ := min_ok hq h2
        refine ⟨u, ?_, h4⟩
        simp only [List.foldlM_cons, Sem.run_bind, Builtin.min2, Sem.run_pure, Result.andThen_ok]
        rw [iLt_eq] at h3
        by_cases hlt : y' < x
        · simpa [hlt] using h3
        · simpa [hlt] using h3
      · cases hq
    · cases hq
theorem max_ok {k : IntKind} : ∀ {vs : List AV} {x : Int} {v : AV} {us : List Value}, maxGo k x vs = some v → VRelL ρ vs us → ∃ u, (us.foldlM Builtin.max2 (.int k x)).run P w = .ok u w ∧ VRel ρ v u
  | [], x, v, us, hq, hv => by cases hq; cases hv; exact ⟨.int k x, by simp, rfl⟩
  | y :: r, x, v, us, hq, hv => by
    obtain ⟨u, s, rfl, h1, h2⟩ := hv
    unfold maxGo at hq
    split at hq
    · rename_i h0; cases h0
    · rename_i k' y' r' h0
      cases h0
      split at hq
      · rename_i hk
        have := (kEq_iff _ _).1 hk
        subst this
        cases h1
        obtain ⟨u, h3, h4⟩ := max_ok hq h2
        refine ⟨u, ?_, h4⟩
        simp only [List.foldlM_cons, Sem.run_bind, Builtin.max2, Sem.run_pure, Result.andThen_ok]
        rw [iLt_eq] at h3
        by_cases hlt : x < y'
        · simpa [hlt] using h3
        · simpa [hlt] using h3
      · cases hq
    · cases hq

theorem lk_ok (R : Rel P ft B w0 ρ h nx w) {t kt e : TypeId} (ht : P.underlying t = some (.map kt e)) {s : KSh} (hs : keyShape P kt = some s) {z : AV} (hz : zeroOf P e = some z) {ok : Bool} {vs : List AV} {v : AV}
    (hq : qLk s z ok vs h = some v) {us : List Value} (hv : VRelL ρ vs us) : ∃ m k u, us = [m, k] ∧ (Instr.lookup t m k ok).run P w = .ok u w ∧ VRel ρ v u := by
  obtain ⟨zv, hzr, hzv, _⟩ := zeroOf_rel (P := P) (w := w) (ρ := ρ) hz
  have fin : ∀ (x : AV) (u : Value) (b : Bool), VRel ρ x u → VRel ρ (lkRes ok x b) (if ok then .tuple #[u, .bool b] else u) := by
    intro x u b hx
    cases ok with
    | true => exact ⟨[u, .bool b], rfl, _, _, rfl, hx, _, _, rfl, rfl, rfl⟩
    | false => exact hx
  unfold qLk at hq
  split at hq
  · rename_i m k
    obtain ⟨mv, kv, rfl, hm, hk⟩ := VRelL.two hv
    split at hq
    · rename_i hsh
      split at hq
      · cases hm
        cases hq
        refine ⟨_, _, _, rfl, ?_, fin z zv false hzv⟩
        simp only [Instr.lookup, Sem.run_bind, run_und ht, Result.andThen_ok, Sem.run_pure, checkKey_ok (P := P) (w := w) hs hk hsh _ 9998]
        have : (Instr.findKey kt kv ([] : List MapEntry)).run P w = .ok none w := by
          rcases findKey_ok (P := P) (w := w) hs hk hsh [] (by simp) with ⟨h1, _⟩ | ⟨j, e, _, h2, _⟩
          · exact h1
          · simp at h2
        simp [this, hzr]
      · rename_i id
        obtain ⟨g, hρ, rfl⟩ := hm
        split at hq
        · rename_i es c sh' hg
          split at hq
          · rename_i hse
            have := (shEq_iff _ _).1 hse
            subst this
            obtain ⟨ents, l, hb, hp, he, hd, _, _, hall⟩ := R.map hg hρ
            have hgo : (getObj g.b).run P w = .ok (.map ents c) w := by simp [getObj, Sem.run, hb]
            obtain ⟨f1, f2⟩ := find_map (P := P) (w := w) hs hk hsh hp he hd hall
            cases hmf : mapFind k es with
            | none =>
              simp only [hmf] at hq
              cases hq
              refine ⟨_, _, _, rfl, ?_, fin z zv false hzv⟩
              simp only [Instr.lookup, Sem.run_bind, run_und ht, Result.andThen_ok, hgo, Sem.run_pure, checkKey_ok (P := P) (w := w) hs hk hsh _ 9998, f1 hmf]
              simp [hzr]
            | some vn =>
              obtain ⟨v0, n0⟩ := vn
              simp only [hmf] at hq
              cases hq
              obtain ⟨j, e, h1, _, h3⟩ := f2 v0 n0 hmf
              refine ⟨_, _, _, rfl, ?_, fin v0 e.val true h3.2.1⟩
              simp only [Instr.lookup, Sem.run_bind, run_und ht, Result.andThen_ok, hgo, Sem.run_pure, checkKey_ok (P := P) (w := w) hs hk hsh _ 9998, h1]
          · cases hq
        · cases hq
      · cases hq
    · cases hq
  · cases hq

theorem findStamp_mem {st : Nat} {k v : AV} : ∀ {es : List (AV × AV × Nat)}, findStamp st es = some (k, v) → (k, v, st) ∈ es
  | [], h => by simp [findStamp] at h
  | (k', v', n) :: r, h => by
    simp only [findStamp] at h
    split at h
    · rename_i hb; cases h; rw [eq_of_beq' hb]; simp
    · simp [findStamp_mem h]

theorem entm_ok (R : Rel P ft B w0 ρ h nx w) {vs : List AV} {v : AV} (hq : qEntm vs h = some v) {us : List Value} (hv : VRelL ρ vs us) : ∃ x u, us = [x] ∧ (Instr.entry x).run P w = .ok u w ∧ VRel ρ v u := by
  unfold qEntm at hq
  split at hq
  · rename_i id
    obtain ⟨x, rfl, hx⟩ := VRelL.one hv
    obtain ⟨g, hρ, rfl⟩ := hx
    split at hq
    · rename_i m since st seen stepped hg
      split at hq
      · rename_i es c sh hgm
        split at hq
        · rename_i hcs
          have hc := eq_of_beq' hcs
          subst hc
          split at hq
          · rename_i k v hf
            cases hq
            obtain ⟨g', h1, h2, _⟩ := R.obj _ _ hg
            rw [hρ] at h1; cases h1
            obtain ⟨hd0, m', hb, gm, hρm, rfl⟩ := h2
            obtain ⟨ents, l, hbm, hp, he, hd, hds, hlt, hsh⟩ := R.map hgm hρm
            have hgo : (getObj g.b).run P w = .ok (.mapIter (some gm.b) since (st :: seen).reverse.toArray c) w := by simp [getObj, Sem.run, hb]
            have hgo2 : (getObj gm.b).run P w = .ok (.map ents c) w := by simp [getObj, Sem.run, hbm]
            have hmem := findStamp_mem hf
            obtain ⟨m1, m2⟩ := he.mem
            -- the entry of that stamp
            have huniq : ∀ e ∈ ents.toList, e.born = st → ERel ρ (k, v, st) e := by
              intro e hm hb2
              obtain ⟨x, hx, r⟩ := m1 e (hp.mem_iff.1 hm)
              have : x = (k, v, st) := by
                have hxs : x.2.2 = st := by rw [← r.2.2]; exact hb2
                clear r hm m1 m2 he hp hd hgm hf hlt hsh
                induction es with
                | nil => simp at hx
                | cons y es ih =>
                  simp only [List.map_cons, List.nodup_cons] at hds
                  rcases List.mem_cons.1 hx with h0 | hx'
                  · rcases List.mem_cons.1 hmem with h | h
                    · rw [h0, h]
                    · exact absurd (List.mem_map (f := fun x : AV × AV × Nat => x.2.2).2 ⟨_, h, by rw [← h0, hxs]⟩) hds.1
                  · rcases List.mem_cons.1 hmem with h | h
                    · exact absurd (List.mem_map (f := fun x : AV × AV × Nat => x.2.2).2 ⟨_, hx', by rw [← h, hxs]⟩) hds.1
                    · exact ih hds.2 h hx'
              rw [this] at r; exact r
            obtain ⟨e0, hm0, r0⟩ := m2 _ hmem
            have hfind : ∃ e, ents.find? (fun e => e.born == st) = some e ∧ e ∈ ents.toList ∧ e.born = st := by
              cases hfe : ents.find? (fun e => e.born == st) with
              | none =>
                have := Array.find?_eq_none.1 hfe e0 (by simpa using hp.mem_iff.2 hm0)
                simp at this
                exact absurd r0.2.2 this
              | some e =>
                have h1 := Array.find?_some hfe
                exact ⟨e, rfl, by simpa using Array.mem_of_find?_eq_some hfe, by simpa using h1⟩
            obtain ⟨e, he1, he2, he3⟩ := hfind
            have r := huniq e he2 he3
            refine ⟨_, .tuple #[e.key, e.val], rfl, ?_, [e.key, e.val], rfl, _, _, rfl, r.1, _, _, rfl, r.2.1, rfl⟩
            rw [hd0]
            simp [Instr.entry, hgo, hgo2, he1]
          · cases hq
        · cases hq
      · cases hq
    · cases hq
  · cases hq


theorem lens_ok {vs : List AV} {v : AV} (hq : qLens vs h = some v) {us : List Value} (hv : VRelL ρ vs us) {t : TypeId} (hu : P.underlying t = some .string) (ty : TypeId) :
    ∃ u, (∃ y, us = [y] ∧ (Builtin.len_ #[t] ty #[y]).run P w = .ok u w) ∧ VRel ρ v u := by
  unfold qLens at hq
  split at hq
  · cases hq
    obtain ⟨y, rfl, h1⟩ := VRelL.one hv
    rename_i b n
    obtain ⟨_, rfl⟩ := h1
    have hsz : (⟨(unpackN b n).toArray⟩ : ByteArray).size = n := by simp [ByteArray.size, unpackN_length]
    exact ⟨goInt n, ⟨_, rfl, by simp [Builtin.len_, run_und hu, hsz, -ByteArray.size_data]⟩, rfl⟩
  · cases hq
theorem lenl_ok {vs : List AV} {v : AV} (hq : qLenl vs h = some v) {us : List Value} (hv : VRelL ρ vs us) {t e : TypeId} (hu : P.underlying t = some (.slice e)) (ty : TypeId) :
    ∃ u, (∃ y, us = [y] ∧ (Builtin.len_ #[t] ty #[y]).run P w = .ok u w) ∧ VRel ρ v u := by
  unfold qLenl at hq
  split at hq
  · cases hq
    obtain ⟨y, rfl, h1⟩ := VRelL.one hv
    cases h1
    exact ⟨goInt 0, ⟨_, rfl, by simp [Builtin.len_, run_und hu]⟩, rfl⟩
  · cases hq
    obtain ⟨y, rfl, h1⟩ := VRelL.one hv
    obtain ⟨a, c, rfl⟩ := h1
    exact ⟨goInt 0, ⟨_, rfl, by simp [Builtin.len_, run_und hu]⟩, rfl⟩
  · cases hq
    rename_i n _
    obtain ⟨y, rfl, h1⟩ := VRelL.one hv
    obtain ⟨g, c, _, rfl, _⟩ := h1
    exact ⟨goInt n, ⟨_, rfl, by simp [Builtin.len_, run_und hu]⟩, rfl⟩
  · cases hq
theorem ERelL.length {ρ : Rho} : ∀ {es : List (AV × AV × Nat)} {l : List MapEntry}, ERelL ρ es l → l.length = es.length
  | [], _, h => by cases h; rfl
  | _ :: _, _, ⟨_, _, e, _, h⟩ => by subst e; simp [ERelL.length h]
theorem lenm_ok (R : Rel P ft B w0 ρ h nx w) {vs : List AV} {v : AV} (hq : qLenm vs h = some v) {us : List Value} (hv : VRelL ρ vs us) {t k e : TypeId} (hu : P.underlying t = some (.map k e)) (ty : TypeId) :
    ∃ u, (∃ y, us = [y] ∧ (Builtin.len_ #[t] ty #[y]).run P w = .ok u w) ∧ VRel ρ v u := by
  unfold qLenm at hq
  split at hq
  · cases hq
    obtain ⟨y, rfl, h1⟩ := VRelL.one hv
    cases h1
    exact ⟨goInt 0, ⟨_, rfl, by simp [Builtin.len_, run_und hu]⟩, rfl⟩
  · obtain ⟨y, rfl, h1⟩ := VRelL.one hv
    obtain ⟨g, hρ, rfl⟩ := h1
    split at hq
    · rename_i es c sh hg
      cases hq
      obtain ⟨ents, l, hb, hp, he, _⟩ := R.map hg hρ
      have hgo : (getObj g.b).run P w = .ok (.map ents c) w := by simp [getObj, Sem.run, hb]
      have hl : ents.size = es.length := by rw [← he.length, ← hp.length_eq]; simp
      exact ⟨goInt es.length, ⟨_, rfl, by simp [Builtin.len_, run_und hu, hgo, hl]⟩, rfl⟩
    · cases hq
  · cases hq
theorem add64_ok {vs : List AV} {v : AV} (hq : qAdd64 vs h = some v) {us : List Value} (hv : VRelL ρ vs us) : ∃ u, (add64Entry us.toArray).run P w = .ok u w ∧ VRel ρ v u := by
  unfold qAdd64 at hq
  split at hq
  · rename_i k1 a k2 b k3 c
    split at hq
    · rename_i e1 e2 e3 e4
      cases hq
      have h1 := (kEq_iff _ _).1 e1
      have h2 := (kEq_iff _ _).1 e2
      have h3 := (kEq_iff _ _).1 e3
      subst h1; subst h2; subst h3
      obtain ⟨x, y, z, rfl, hx, hy, hz⟩ := VRelL.three hv
      cases hx; cases hy; cases hz
      have hc : c ≤ 1 := le_of_ble e4
      refine ⟨_, run_add64 (a : Int) (b : Int) (c : Int) (by omega) (by omega) (by omega) (by omega) w, _, rfl, _, _, rfl, rfl, _, _, rfl, rfl, rfl⟩
    · cases hq
  · cases hq
theorem noNext : Extern.allNextRows.lookup "math/bits.Add64" = none := by kernel_rfl
theorem noNext0 : Extern.allNextRows.lookup "" = none := by kernel_rfl
theorem noGen : Extern.allGenericRows.lookup "math/bits.Add64" = none := by kernel_rfl
theorem noTyped : Extern.allTypedRows.lookup "math/bits.Add64" = none := by kernel_rfl
theorem isRow : Extern.allRows.lookup "math/bits.Add64" = some add64Entry := by kernel_rfl

/-- ALL OF THEM -/
theorem qop_ok (R : Rel P ft B w0 ρ h nx w) {ev : Operand → Value} (hev : ∀ c, ev (.const c) = c) (hef : ∀ f, ev (.func f) = .func (.func f) #[] #[]) {o : Oper} {k : QK} {xs : List Operand} (hc : compQ P o.op = some (k, xs)) {vs : List AV} {v : AV} (hv : VRelL ρ vs (xs.map ev)) (hq : qop k vs h = some v) :
    Yld P ρ w ev o v := by
  have one : ∀ {x : Operand} {s : Value → Sem Value}, xs = [x] → (execOp ev o = do pure (Next.value (← s (ev x)))) → (∃ y u, xs.map ev = [y] ∧ (s y).run P w = .ok u w ∧ VRel ρ v u) → Yld P ρ w ev o v := by
    rintro x s rfl he ⟨y, u, e, h1, h2⟩
    cases e
    exact ⟨u, by rw [he]; exact run_v h1, h2⟩
  have mov : ∀ {x : Operand}, k = .mov → xs = [x] → (execOp ev o).run P w = .ok (.value (ev x)) w → Yld P ρ w ev o v := by
    rintro x rfl rfl he
    unfold qop qMov at hq
    simp only at hq
    split at hq
    · cases hq
      obtain ⟨u, e, hu⟩ := VRelL.one hv
      cases e
      exact ⟨_, he, hu⟩
    · cases hq
  cases ho : o.op <;> rw [ho] at hc <;> simp only [compQ] at hc
  case move x => cases hc; exact mov rfl rfl (by simp [execOp, ho])
  case assign x => cases hc; exact mov rfl rfl (by simp [execOp, ho])
  case pick c a b =>
    cases hc
    unfold qop qPick at hq
    simp only at hq
    split at hq
    · obtain ⟨uc, ua, ub, e, hc, ha, hb⟩ := VRelL.three hv
      simp only [List.map_cons, List.map_nil, List.cons.injEq, and_true] at e
      obtain ⟨e1, e2, e3⟩ := e
      cases hc
      split at hq
      · cases hq; exact ⟨ua, by simp [execOp, ho, e1, asBool, e2], ha⟩
      · cases hq; exact ⟨ub, by simp [execOp, ho, e1, asBool, e3], hb⟩
    · cases hq
  case binOp op t x y yt =>
    have two : ∀ {a b : AV}, vs = [a, b] → VRel ρ a (ev x) ∧ VRel ρ b (ev y) := by
      rintro a b rfl
      have hl := hv.length
      have hxs : xs = [x, y] := by
        split at hc
        · split at hc
          · cases hc; rfl
          · cases hc; rfl
          · cases hk : eqKind P t (isConst x || isConst y) <;> simp [hk] at hc
            exact hc.2.symm
        · cases hc; rfl
      subst hxs
      obtain ⟨u, v, e, h1, h2⟩ := VRelL.two hv
      cases e
      exact ⟨h1, h2⟩
    have binc : k = .bin op → Yld P ρ w ev o v := by
      rintro rfl
      unfold qop qBin at hq
      simp only at hq
      split at hq
      · rename_i a b
        obtain ⟨h1, h2⟩ := two rfl
        obtain ⟨r, hr1, hr2⟩ := bin_ok (P := P) (w := w) t hq h1 h2 x y
        exact ⟨r, by simp only [execOp, ho]; exact run_v hr1, hr2⟩
      · cases hq
    split at hc
    · rename_i hcmp
      split at hc
      · cases hc; exact binc rfl
      · cases hc; exact binc rfl
      · cases hk : eqKind P t (isConst x || isConst y) with
        | none => simp [hk] at hc
        | some ek =>
          simp [hk] at hc
          obtain ⟨hk1, _⟩ := hc
          subst hk1
          unfold qop qEqv at hq
          simp only at hq
          split at hq
          · rename_i a b
            obtain ⟨h1, h2⟩ := two rfl
            split at hq
            · rename_i r hr
              cases hq
              have := eqv_ok (P := P) (w := w) hcmp hk hr h1 h2
              refine ⟨_, by simp only [execOp, ho]; exact run_v this, ?_⟩
              simp only [VRel]
              congr 1
              cases hn : (op == BinOp.neq) <;> simp
            · cases hq
          · cases hq
    · cases hc; exact binc rfl
  case unOp op t x =>
    cases hc
    exact one rfl (by simp [execOp, ho]) (un_ok (op := op) (by simpa [qop] using hq) hv)
  case convert s d x =>
    unfold compConv at hc
    split at hc
    · rename_i sk dk hs hd
      cases hc
      exact one rfl (by simp [execOp, ho]) (conv_ok (s := s) (d := d) (by simpa [qop] using hq) hv hs hd)
    · rename_i hs hd
      cases hc
      -- a text as it is
      unfold qop at hq
      simp only at hq
      have hv' : VRelL ρ vs ((x :: ((none : Option Operand).toList ++ (none : Option Operand).toList)).map ev) := by simpa using hv
      have hq' : qSls (none : Option Operand).isSome (none : Option Operand).isSome vs h = some v := hq
      unfold qSls at hq
      split at hq
      · rename_i bits n r
        obtain ⟨y, s', e, hx, hrest⟩ := hv
        cases e
        cases r with
        | cons _ _ => obtain ⟨_, _, e2, _⟩ := hrest; cases e2
        | nil =>
          simp only [optHd, bound?] at hq
          cases hq
          obtain ⟨hlt, hxe⟩ := hx
          refine ⟨ev x, ?_, subB_lt _ _ _, ?_⟩
          · simp only [execOp, ho]
            refine run_v ?_
            rw [hxe]; simp [convert, run_und hs, run_und hd]
          · rw [hxe]
            have : unpackN (subB bits 0 (Nat.sub n 0)) (Nat.sub n 0) = unpackN bits n := by
              have := unpackN_sub (bits := bits) (lo := 0) (k := n) (n := n) (by omega)
              simp only [List.drop_zero, List.take_of_length_le (Nat.le_of_eq (unpackN_length n bits))] at this
              exact this.symm
            rw [this]
      · cases hq
    · rename_i e hs hd
      split at hc
      · rename_i he
        cases hc
        exact one rfl (by simp [execOp, ho]) (b2s_ok R (s := s) (d := d) (by simpa [qop] using hq) hv hs hd he)
      · cases hc
    · cases hc
  case makeInterface t x =>
    have hd : ∃ d, P.underlying t = some d ∧ (∀ ms, d ≠ .interface ms) ∧ k = .mkif t ∧ xs = [x] := by
      split at hc
      · cases hc
      · rename_i d hd hu
        cases hc
        exact ⟨_, hu, fun ms e => by subst e; exact hd _ rfl, rfl, rfl⟩
      · cases hc
    obtain ⟨d, hu, hni, rfl, rfl⟩ := hd
    unfold qop qMkif at hq
    simp only at hq
    split at hq
    · cases hq
      obtain ⟨u, e, hx⟩ := VRelL.one hv
      refine ⟨.iface t u, ?_, u, rfl, hx⟩
      simp only [List.map_cons, List.map_nil, List.cons.injEq, and_true] at e
      simp only [execOp, ho, e]
      refine run_v ?_
      simp only [Instr.makeInterface, Sem.run_bind, run_und hu, Result.andThen_ok]
      cases d <;> first | rfl | (exact absurd rfl (hni _))
    · cases hq
  case makeFunc fn first captured =>
    cases fn <;> simp only [compQ] at hc
    case func f =>
      cases hc
      have hq' : qMkf f first.size vs h = some v := hq
      unfold qMkf at hq'
      cases hq'
      rw [List.map_append] at hv
      have h1 := hv.take first.size
      have h2 := hv.drop first.size
      rw [List.take_left' (by simp)] at h1
      rw [List.drop_left' (by simp)] at h2
      refine ⟨.func (.func f) (first.map ev) (captured.map ev), by simp only [execOp, ho]; exact run_v (by rfl), ?_⟩
      refine ⟨_, _, ?_, h1, h2⟩
      rw [← Array.toList_map, ← Array.toList_map, Array.toArray_toList, Array.toArray_toList]
    all_goals cases hc
  case build t parts =>
    split at hc
    · rename_i z fs hz hu
      split at hc
      · rename_i hall
        cases hb : compBuild P fs.toList parts.toList with
        | none => simp [hb] at hc
        | some ps =>
          simp [hb] at hc
          obtain ⟨rfl, rfl⟩ := hc
          have hq' : qBuild z ps vs h = some v := hq
          obtain ⟨u, h1, h2⟩ := build_ok (P := P) (w := w) hq' hv hz parts.toList ev rfl (.inl ⟨fs, hu, hall, hb⟩)
          exact ⟨u, by simp only [execOp, ho]; exact run_v (by simpa using h1), h2⟩
      · cases hc
    · rename_i z n e hz hu
      cases hs : szOf P e with
      | none => simp [hs] at hc
      | some s =>
        simp [hs] at hc
        obtain ⟨rfl, rfl⟩ := hc
        have hq' : qBuild z (compArr s parts.toList) vs h = some v := hq
        obtain ⟨u, h1, h2⟩ := build_ok (P := P) (w := w) hq' hv hz parts.toList ev rfl (.inr ⟨n, e, s, hu, hs, rfl⟩)
        exact ⟨u, by simp only [execOp, ho]; exact run_v (by simpa using h1), h2⟩
    · cases hc
  case load t a =>
    split at hc
    · rename_i ha
      cases hs : szOf P t with
      | none => simp [hs] at hc
      | some n =>
        simp [hs] at hc
        obtain ⟨rfl, rfl⟩ := hc
        exact one rfl (by simp [execOp, ho]) (ldn_ok R ha hs (by simpa [qop] using hq) hv)
    · rename_i ha
      split at hc
      · rename_i d hu
        cases hc
        exact one rfl (by simp [execOp, ho]) (ld_ok R hu (by simpa using ha) (by simpa [qop] using hq) hv)
      · cases hc
  case nilCheck x =>
    cases hc
    unfold qop qNilc at hq
    simp only at hq
    split at hq
    · cases hq
      obtain ⟨u, e, hx⟩ := VRelL.one hv
      obtain ⟨g, hρ, rfl⟩ := hx
      simp only [List.map_cons, List.map_nil, List.cons.injEq, and_true] at e
      exact ⟨_, by simp only [execOp, ho, e]; rfl, g, hρ, rfl⟩
    · cases hq
      obtain ⟨u, e, hx⟩ := VRelL.one hv
      obtain ⟨a, b, rfl, h1⟩ := hx
      simp only [List.map_cons, List.map_nil, List.cons.injEq, and_true] at e
      exact ⟨_, by simp only [execOp, ho, e]; rfl, a, b, rfl, h1⟩
    · cases hq
      obtain ⟨u, e, hx⟩ := VRelL.one hv
      obtain ⟨g, hρ, rfl⟩ := hx
      simp only [List.map_cons, List.map_nil, List.cons.injEq, and_true] at e
      exact ⟨_, by simp only [execOp, ho, e]; rfl, g, hρ, rfl⟩
    · cases hq
  case fieldAddr t a i =>
    split at hc
    · rename_i fs hu
      split at hc
      · rename_i f hf
        split at hc
        · rename_i n hs
          cases hc
          unfold qop qFa at hq
          simp only at hq
          split at hq
          · cases hq
            obtain ⟨u, e, hx⟩ := VRelL.one hv
            obtain ⟨g, hρ, rfl⟩ := hx
            simp only [List.map_cons, List.map_nil, List.cons.injEq, and_true] at e
            refine ⟨_, by simp only [execOp, ho, e]; exact run_v (by simp [Instr.fieldAt, run_und hu, hf, run_asAddr, fieldPlace, run_size hs]; rfl), g, hρ, ?_⟩
            rw [add_addr, Nat.add_assoc]; rfl
          · cases hq
        · cases hc
      · cases hc
    · cases hc
  case field t a i =>
    split at hc
    · rename_i fs hu
      split at hc
      · rename_i f hf
        split at hc
        · rename_i ha
          cases hs : szOf P f.type with
          | none => simp [hs] at hc
          | some n =>
            simp [hs] at hc
            obtain ⟨rfl, rfl⟩ := hc
            unfold qop qFld at hq
            simp only at hq
            split at hq
            · cases hq
              obtain ⟨u, e, hx⟩ := VRelL.one hv
              obtain ⟨l, rfl, hl⟩ := hx
              simp only [List.map_cons, List.map_nil, List.cons.injEq, and_true] at e
              refine ⟨_, by simp only [execOp, ho, e]; exact run_v (by simp [Instr.field, run_und hu, hf, asAgg, part, run_agg_t ha, run_size hs]; rfl), (l.drop f.offset).take n, ?_, (hl.drop f.offset).take n⟩
              congr 1
            · cases hq
        · rename_i ha
          split at hc
          · rename_i d hd
            cases hc
            unfold qop qFld at hq
            simp only at hq
            split at hq
            · obtain ⟨u, e, hx⟩ := VRelL.one hv
              obtain ⟨l, rfl, hl⟩ := hx
              simp only [List.map_cons, List.map_nil, List.cons.injEq, and_true] at e
              obtain ⟨u, hu1, hu2⟩ := hl.get _ _ hq
              refine ⟨u, by simp only [execOp, ho, e]; exact run_v (by simp [Instr.field, run_und hu, hf, asAgg, part, run_agg_f hd (by simpa using ha), hu1]), hu2⟩
            · cases hq
          · cases hc
      · cases hc
    · cases hc
  case indexAddr t a i =>
    split at hc
    · rename_i e hu
      cases hs : szOf P e with
      | none => simp [hs] at hc
      | some n =>
        simp [hs] at hc
        obtain ⟨rfl, rfl⟩ := hc
        unfold qop qIa at hq
        simp only at hq
        split at hq
        · split at hq
          · rename_i hlt
            cases hq
            obtain ⟨ua, ui, e, h1, h2⟩ := VRelL.two hv
            obtain ⟨g, c, hρ, rfl, _, _⟩ := h1
            cases h2
            simp only [List.map_cons, List.map_nil, List.cons.injEq, and_true] at e
            obtain ⟨e1, e2⟩ := e
            have hl := lt_of_blt hlt
            refine ⟨_, by simp only [execOp, ho, e1, e2]; exact run_v (by simp [Instr.indexAt, run_und hu, asIntOf, run_size hs, hl]; rfl), g, hρ, ?_⟩
            rw [add_addr, Nat.add_assoc]; rfl
          · cases hq
        · cases hq
    · rename_i len e hu
      cases hs : szOf P e with
      | none => simp [hs] at hc
      | some n =>
        simp [hs] at hc
        obtain ⟨rfl, rfl⟩ := hc
        unfold qop qIap at hq
        simp only at hq
        split at hq
        · split at hq
          · rename_i hlt
            cases hq
            obtain ⟨ua, ui, e, h1, h2⟩ := VRelL.two hv
            obtain ⟨g, hρ, rfl⟩ := h1
            cases h2
            simp only [List.map_cons, List.map_nil, List.cons.injEq, and_true] at e
            obtain ⟨e1, e2⟩ := e
            have hl := lt_of_blt hlt
            refine ⟨_, by simp only [execOp, ho, e1, e2]; exact run_v (by simp [Instr.indexAt, run_und hu, asIntOf, run_size hs, hl, run_asAddr]; rfl), g, hρ, ?_⟩
            rw [add_addr, Nat.add_assoc]; rfl
          · cases hq
        · cases hq
    · cases hc
  case index t a i =>
    split at hc
    · rename_i hu
      cases hc
      unfold qop qIxs at hq
      simp only at hq
      split at hq
      · split at hq
        · rename_i bits n k0 j _ hlt
          cases hq
          obtain ⟨ua, ui, e, h1, h2⟩ := VRelL.two hv
          obtain ⟨_, rfl⟩ := h1
          cases h2
          simp only [List.map_cons, List.map_nil, List.cons.injEq, and_true] at e
          obtain ⟨e1, e2⟩ := e
          have hl := lt_of_blt hlt
          refine ⟨.int .u8 (byt bits j), ?_, rfl⟩
          simp only [execOp, ho, e1, e2]
          refine run_v ?_
          have hget : (⟨(unpackN bits n).toArray⟩ : ByteArray)[j]? = some (UInt8.ofNat (byt bits j)) := by
            have := unpackN_get n bits j
            rw [if_pos hl] at this
            have hsz : j < (⟨(unpackN bits n).toArray⟩ : ByteArray).size := by simp [ByteArray.size, unpackN_length, hl]
            rw [getElem?_pos (⟨(unpackN bits n).toArray⟩ : ByteArray) j hsz]
            simp only [ByteArray.getElem_eq_getElem_data]
            obtain ⟨hj, hje⟩ := List.getElem?_eq_some_iff.1 this
            simpa using hje
          have hb := byt_lt bits j
          simp [Instr.index, run_und hu, asIntOf, hget, Nat.mod_eq_of_lt hb]
        · cases hq
      · cases hq
    · cases hc
  case slice t x lo hi mx =>
    unfold compSlice at hc
    simp only at hc
    split at hc
    · rename_i n e hu
      split at hc
      · cases hc
      · rename_i hmx
        have hmx' : mx = none := by cases mx <;> simp at hmx ⊢
        subst hmx'
        cases hs : szOf P e with
        | none => simp [hs] at hc
        | some z =>
          simp [hs] at hc
          obtain ⟨rfl, rfl⟩ := hc
          obtain ⟨r, h1, h2⟩ := sla_ok (P := P) (w := w) (lo := lo) (hi := hi) (ev := ev) (by simpa [qop] using hq) (x := x) (by simpa using hv) hu hs
          exact ⟨r, by simp only [execOp, ho]; exact run_v (by simpa using h1), h2⟩
    · rename_i e hu
      split at hc
      · cases hc
      rename_i hnoc
      cases hs : szOf P e with
      | none => simp [hs] at hc
      | some z =>
        simp [hs] at hc
        obtain ⟨rfl, rfl⟩ := hc
        unfold qop qSlc at hq
        simp only at hq
        split at hq
        · rename_i xv r
          simp only [List.map_cons, List.append_assoc] at hv
          obtain ⟨y, s, e', hx, hrest⟩ := hv
          cases e'
          obtain ⟨g1, g2⟩ := optHd_ok hrest
          obtain ⟨g3, g4⟩ := optHd_ok g2
          have g4' : VRelL ρ (optHd hi.isSome (optHd lo.isSome r).2).2 ((mx.toList ++ []).map ev) := by simpa using g4
          obtain ⟨g5, g6⟩ := optHd_ok g4'
          split at hq
          · split at hq
            · rename_i hek
              have hno : (mx.map ev).isSome = true → (hi.map ev).isSome = true := by
                intro hm
                cases mx <;> cases hi <;> simp at hnoc hm ⊢
              obtain ⟨r', h1, h2⟩ := slc3_ok (P := P) (w := w) hq hx g1 g3 g5 hno hu hs (by
                rintro id off len rfl g hρ
                simp only [eOk] at hek
                split at hek
                · rename_i e0 hg
                  obtain ⟨_, _, _, _, _, _, _, he, _⟩ := R.cells hg hρ
                  rw [he]; exact eq_of_beq' hek
                · rename_i hg
                  obtain ⟨_, _, _, _, _, _, _, he, _⟩ := R.bytes hg hρ
                  rw [he]; exact eq_of_beq' hek
                · cases hek)
              have hsa : (Instr.sliceAt t (ev x) (lo.map ev) (hi.map ev) (mx.map ev)).run P w = (Instr.slice t (ev x) (lo.map ev) (hi.map ev) (mx.map ev)).run P w := by
                simp [Instr.sliceAt, run_und hu]
              exact ⟨r', by simp only [execOp, ho]; exact run_v (by rw [hsa]; exact h1), h2⟩
            · cases hq
          · cases hq
        · cases hq
    · rename_i hu
      split at hc
      · cases hc
      · rename_i hmx
        have hmx' : mx = none := by cases mx <;> simp at hmx ⊢
        subst hmx'
        cases hc
        obtain ⟨r, h1, h2⟩ := sls_ok (P := P) (w := w) (lo := lo) (hi := hi) (ev := ev) (by simpa [qop] using hq) (x := x) (by simpa using hv) hu
        have hsa : (Instr.sliceAt t (ev x) (lo.map ev) (hi.map ev) none).run P w = (Instr.slice t (ev x) (lo.map ev) (hi.map ev) none).run P w := by
          simp [Instr.sliceAt, run_und hu]
        exact ⟨r, by simp only [execOp, ho]; exact run_v (by simpa [hsa] using h1), h2⟩
    · cases hc
  case lookup t m kx ok =>
    split at hc
    · rename_i kt e hu
      split at hc
      · rename_i s z hs hz
        cases hc
        obtain ⟨mv, kv, u, e, h1, h2⟩ := lk_ok R hu hs hz (by simpa [qop] using hq) hv
        simp only [List.map_cons, List.map_nil, List.cons.injEq, and_true] at e
        obtain ⟨e1, e2⟩ := e
        exact ⟨u, by simp only [execOp, ho, e1, e2]; exact run_v h1, h2⟩
      · cases hc
    · cases hc
  case extract x i =>
    cases hc
    unfold qop qExt at hq
    simp only at hq
    split at hq
    · obtain ⟨u, e, hx⟩ := VRelL.one hv
      obtain ⟨l, rfl, hl⟩ := hx
      simp only [List.map_cons, List.map_nil, List.cons.injEq, and_true] at e
      obtain ⟨u, hu1, hu2⟩ := hl.get _ _ hq
      exact ⟨u, by simp only [execOp, ho, e]; exact run_v (by simp [Instr.extract, hu1]), hu2⟩
    · cases hq
  case entry x =>
    cases hc
    exact one rfl (by simp [execOp, ho]) (entm_ok R (by simpa [qop] using hq) hv)
  case call c =>
    unfold compCallQ at hc
    split at hc
    · -- len
      rename_i hcal
      have hex : ∀ (t : TypeId) (x : Operand), c.argTypes[0]? = some t → c.args.toList = [x] → ∀ u, (Builtin.len_ #[t] o.type #[ev x]).run P w = .ok u w → (execOp ev o).run P w = .ok (.value u) w := by
        intro t x ht hx u hu
        have hargs : c.args = #[x] := by rw [← Array.toArray_toList (xs := c.args), hx]
        have : (Builtin.len_ c.argTypes o.type #[ev x]).run P w = .ok u w := by
          have h0 : (#[t] : Array TypeId)[0]? = some t := rfl
          unfold Builtin.len_ at hu ⊢
          rw [ht]; simpa using hu
        simp [execOp, ho, resolve, hcal, invoke, builtin, hargs, this]
      split at hc
      · rename_i t x ht hx
        split at hc
        · rename_i n e hu
          cases hc
          refine mov (x := .const (.int .i64 n)) rfl rfl ?_
          rw [hev]
          exact hex t x ht hx _ (by simp [Builtin.len_, run_und hu, goInt])
        · rename_i hu
          cases hc
          obtain ⟨u, h1, h2⟩ := lens_ok (P := P) (w := w) (h := h) hq hv hu o.type
          obtain ⟨y, e, hr⟩ := h1
          cases e
          exact ⟨u, hex t x ht hx u hr, h2⟩
        · rename_i e0 hu
          cases hc
          obtain ⟨u, h1, h2⟩ := lenl_ok (P := P) (w := w) (h := h) hq hv hu o.type
          obtain ⟨y, e, hr⟩ := h1
          cases e
          exact ⟨u, hex t x ht hx u hr, h2⟩
        · rename_i k0 e0 hu
          cases hc
          obtain ⟨u, h1, h2⟩ := lenm_ok R (h := h) hq hv hu o.type
          obtain ⟨y, e, hr⟩ := h1
          cases e
          exact ⟨u, hex t x ht hx u hr, h2⟩
        · cases hc
      · cases hc
    · rename_i hcal
      cases hc
      unfold qop qMn at hq
      simp only at hq
      split at hq
      · rename_i k0 n0 r0
        obtain ⟨u0, s, e, h1, h2⟩ := hv
        cases h1
        obtain ⟨u, h3, h4⟩ := min_ok (P := P) (w := w) hq h2
        refine ⟨u, ?_, h4⟩
        have hargs : (c.args.map ev).toList = .int k0 n0 :: s := by rw [Array.toList_map]; exact e
        simp [execOp, ho, resolve, hcal, invoke, builtin, Builtin.min_, e, h3]
      · cases hq
    · rename_i hcal
      cases hc
      unfold qop qMx at hq
      simp only at hq
      split at hq
      · rename_i k0 n0 r0
        obtain ⟨u0, s, e, h1, h2⟩ := hv
        cases h1
        obtain ⟨u, h3, h4⟩ := max_ok (P := P) (w := w) hq h2
        refine ⟨u, ?_, h4⟩
        have hargs : (c.args.map ev).toList = .int k0 n0 :: s := by rw [Array.toList_map]; exact e
        simp [execOp, ho, resolve, hcal, invoke, builtin, Builtin.max_, e, h3]
      · cases hq
    · rename_i f hcal
      split at hc
      · rename_i hext
        cases hc
        unfold isExt at hext
        split at hext
        · rename_i fn hf
          simp only [Bool.and_eq_true, beq_iff_eq, Option.isNone_iff_eq_none] at hext
          obtain ⟨⟨hname, horig⟩, hbody⟩ := hext
          obtain ⟨u, h1, h2⟩ := add64_ok (P := P) (w := w) (h := h) hq hv
          refine ⟨u, ?_, h2⟩
          have hfe : ev (.func f) = .func (.func f) #[] #[] := hef f
          have hnn : Extern.findNext fn = none := by simp [Extern.findNext, hname, horig, noNext, noNext0]
          have hff : Extern.find fn = some add64Entry := by simp [Extern.find, hname, noGen, noTyped, isRow]
          have hn : (fn.name == "runtime.NumGoroutine") = false := by rw [hname]; rfl
          have := run_callFunc_extern (P := P) hf hn (by simp [hbody]) hnn hff (c.args.map ev) w
          have ha : c.args.map ev = (c.args.toList.map ev).toArray := by rw [← Array.toList_map, Array.toArray_toList]
          rw [ha, h1] at this
          simp [execOp, ho, resolve, hcal, hfe, Deferred.ofValue, invoke]
          simpa [ha] using this
        · cases hext
      · cases hc
    · cases hc
  all_goals cases hc

end Go.Md
end
section
/- HOW THE RELATION IS KEPT where a block is written, made, moved. No condition. -/
namespace Go.Md
open Go.RowKit (Below)
variable {P : Program} {ft : FT} {B : Nat} {w0 w w' : World} {ρ ρ' : Rho} {h : T AO} {nx : Nat}

theorem ERelL.mono (hr : ρ.le ρ') : ∀ {es : List (AV × AV × Nat)} {l : List MapEntry}, ERelL ρ es l → ERelL ρ' es l
  | [], _, h => h
  | x :: _, _, ⟨e, s, he, h1, h2⟩ => ⟨e, s, he, ⟨VRel.mono hr _ _ h1.1, VRel.mono hr _ _ h1.2.1, h1.2.2⟩, ERelL.mono hr h2⟩

theorem ORel.mono (hr : ρ.le ρ') {g : Gh} (hb : w'.heap[g.b]? = w.heap[g.b]?) : ∀ {o : AO}, ORel P ft ρ w g o → ORel P ft ρ' w' g o
  | .cells .., ⟨arr, el, fz, h1, h2, h3, h4, h5, h6⟩ => ⟨arr, el, fz, by rw [hb]; exact h1, h2, h3, h4, h5, fun j v hj hv => let ⟨u, a, b⟩ := h6 j v hj hv; ⟨u, a, VRel.mono hr _ _ b⟩⟩
  | .bytes .., ⟨arr, el, fz, h1, h2⟩ => ⟨arr, el, fz, by rw [hb]; exact h1, h2⟩
  | .map .., ⟨ents, l, h1, h2, h3, h4⟩ => ⟨ents, l, by rw [hb]; exact h1, h2, ERelL.mono hr h3, h4⟩
  | .loop .., ⟨r, h1, h2, h3, h4, h5, h6, h7, h8, h9, ⟨gd, h10, h11⟩, h12⟩ => ⟨r, by rw [hb]; exact h1, h2, h3, h4, h5, TmRel.mono hr h6, h7, h8, h9, ⟨gd, hr _ _ h10, h11⟩, h12⟩
  | .dfr, h => by show w'.heap[g.b]? = _; rw [hb]; exact h
  | .miter none .., ⟨h0, m', h1, h2⟩ => ⟨h0, m', by rw [hb]; exact h1, h2⟩
  | .miter (some _) .., ⟨h0, m', h1, gm, h2, h3⟩ => ⟨h0, m', by rw [hb]; exact h1, gm, hr _ _ h2, h3⟩

/-- the two worlds differ at one block, from B on, at most; and in the count of draws -/
structure Diff (B b : Nat) (w w' : World) : Prop where
  os : w'.os = w.os
  tape : w'.tape = w.tape
  output : w'.output = w.output
  size : w.heap.size ≤ w'.heap.size
  low : B ≤ b
  lt : b < w'.heap.size
  other : ∀ k, k ≠ b → k < w.heap.size → w'.heap[k]? = w.heap[k]?

theorem Diff.below {b : Nat} (d : Diff B b w w') (hB : B ≤ w.heap.size) : Below B w w' :=
  ⟨d.os, d.tape, d.output, d.size, fun k hk => d.other k (by have := d.low; omega) (by omega)⟩

theorem Rel.drew (R : Rel P ft B w0 ρ h nx w) : Rel P ft B w0 ρ h nx w.drew :=
  ⟨fun id o hg => let ⟨g, h1, h2, h3⟩ := R.obj id o hg; ⟨g, h1, ORel.mono (Rho.le.refl ρ) rfl h2, h3⟩, R.inj, R.dom, R.glob, R.base, R.below.trans ⟨rfl, rfl, rfl, Nat.le_refl _, fun _ _ => rfl⟩⟩

theorem Rel.del (R : Rel P ft B w0 ρ h nx w) (id : Nat) : Rel P ft B w0 ρ (h.del id) nx w := by
  refine ⟨fun i o hg => ?_, fun i j oi oj gi gj hi hj => ?_, R.dom, R.glob, R.base, R.below⟩
  · rw [T.get_del] at hg
    split at hg
    · cases hg
    · exact R.obj i o hg
  · rw [T.get_del] at hi hj
    split at hi
    · cases hi
    · split at hj
      · cases hj
      · exact R.inj i j oi oj gi gj hi hj

/-- an object is written in its own block -/
theorem Rel.upd (R : Rel P ft B w0 ρ h nx w) {id : Nat} {o o' : AO} (hg : h.get id = some o) {g : Gh} (hρ : ρ id = some g) (hro : isRo o = false) (d : Diff B g.b w w') (ho : ORel P ft ρ w' g o') :
    Rel P ft B w0 ρ (h.set id o') nx w' := by
  refine ⟨fun i oi hi => ?_, fun i j oi oj gi gj hi hj => ?_, fun i gi hi => ⟨(R.dom i gi hi).1, Nat.lt_of_lt_of_le (R.dom i gi hi).2 d.size⟩, R.glob, Nat.le_trans R.base d.size, R.below.trans (d.below R.base)⟩
  · rw [T.get_set] at hi
    split at hi
    · rename_i e
      subst e
      cases hi
      exact ⟨g, hρ, ho, .inr d.low⟩
    · rename_i e
      obtain ⟨gi, h1, h2, h3⟩ := R.obj i oi hi
      refine ⟨gi, h1, ORel.mono (Rho.le.refl ρ) (d.other gi.b ?_ (R.dom i gi h1).2) h2, h3⟩
      intro e2
      exact e (R.inj i id oi o gi g hi hg h1 hρ e2).symm
  · have key : ∀ k ok, (h.set id o').get k = some ok → ∃ o2, h.get k = some o2 := by
      intro k ok hk
      rw [T.get_set] at hk
      split at hk
      · rename_i e; subst e; exact ⟨o, hg⟩
      · exact ⟨ok, hk⟩
    obtain ⟨o1, h1⟩ := key i oi hi
    obtain ⟨o2, h2⟩ := key j oj hj
    exact R.inj i j o1 o2 gi gj h1 h2

def Rho.upd (ρ : Rho) (i : Nat) (g : Gh) : Rho := fun j => if j = i then some g else ρ j
theorem Rho.le_upd {g : Gh} (hd : ∀ id g, ρ id = some g → id < nx) : ρ.le (ρ.upd nx g) := by
  intro i g' hi
  unfold Rho.upd
  rw [if_neg (by have := hd i g' hi; omega)]
  exact hi
theorem Rho.upd_self (i : Nat) (g : Gh) : (ρ.upd i g) i = some g := by simp [Rho.upd]

/-- a new number for a block that no living object lies in -/
theorem Rel.put (R : Rel P ft B w0 ρ h nx w) {g : Gh} {o : AO} (d : Diff B g.b w w') (hfree : ∀ i oi gi, h.get i = some oi → ρ i = some gi → gi.b ≠ g.b) (ho : ORel P ft (ρ.upd nx g) w' g o) :
    Rel P ft B w0 (ρ.upd nx g) (h.set nx o) (nx + 1) w' := by
  have hle : ρ.le (ρ.upd nx g) := Rho.le_upd fun id g hh => (R.dom id g hh).1
  have hnone : h.get nx = none := by
    cases hn : h.get nx with
    | none => rfl
    | some o' => obtain ⟨g', h1, _⟩ := R.obj nx o' hn; exact absurd (R.dom nx g' h1).1 (by omega)
  have hold : ∀ i gi oi, h.get i = some oi → (ρ.upd nx g) i = some gi → ρ i = some gi := by
    intro i gi oi hi hh
    unfold Rho.upd at hh
    split at hh
    · rename_i e; subst e; rw [hnone] at hi; cases hi
    · exact hh
  refine ⟨fun i oi hi => ?_, fun i j oi oj gi gj hi hj h1 h2 hb => ?_, fun i gi hi => ?_, fun i hi => ?_, Nat.le_trans R.base d.size, R.below.trans (d.below R.base)⟩
  · rw [T.get_set] at hi
    split at hi
    · rename_i e
      subst e
      cases hi
      exact ⟨g, Rho.upd_self _ _, ho, .inr d.low⟩
    · obtain ⟨gi, h1, h2, h3⟩ := R.obj i oi hi
      exact ⟨gi, hle _ _ h1, ORel.mono hle (d.other gi.b (hfree i oi gi hi h1) (R.dom i gi h1).2) h2, h3⟩
  · rw [T.get_set] at hi hj
    split at hi
    · rename_i e
      subst e
      split at hj
      · rename_i e2; exact e2
      · rw [Rho.upd_self] at h1; cases h1
        exact absurd hb.symm (hfree j oj gj hj (hold j gj oj hj h2))
    · split at hj
      · rename_i e2
        subst e2
        rw [Rho.upd_self] at h2; cases h2
        exact absurd hb (hfree i oi gi hi (hold i gi oi hi h1))
      · exact R.inj i j oi oj gi gj hi hj (hold i gi oi hi h1) (hold j gj oj hj h2) hb
  · unfold Rho.upd at hi
    split at hi
    · rename_i e; subst e; cases hi; exact ⟨by omega, d.lt⟩
    · have := R.dom i gi hi; exact ⟨by omega, Nat.lt_of_lt_of_le this.2 d.size⟩
  · obtain ⟨gi, h1, h2⟩ := R.glob i hi
    exact ⟨gi, hle _ _ h1, h2⟩

theorem Diff.alloc (hB : B ≤ w.heap.size) (o : Obj) : Diff B w.heap.size w (w.alloc o) :=
  ⟨rfl, rfl, rfl, by simp, hB, by simp, fun k hk hl => heap_alloc_old w o k hl⟩
theorem Diff.drew {b : Nat} (d : Diff B b w w') : Diff B b w w'.drew := ⟨d.os, d.tape, d.output, d.size, d.low, d.lt, d.other⟩

/-- a new block -/
theorem Rel.new (R : Rel P ft B w0 ρ h nx w) (obj : Obj) {o : AO} {e sz : Nat} (ho : ORel P ft (ρ.upd nx ⟨w.heap.size, 0, e, sz⟩) (w.alloc obj) ⟨w.heap.size, 0, e, sz⟩ o) :
    Rel P ft B w0 (ρ.upd nx ⟨w.heap.size, 0, e, sz⟩) (h.set nx o) (nx + 1) (w.alloc obj) :=
  R.put (g := ⟨w.heap.size, 0, e, sz⟩) (Diff.alloc R.base obj) (fun i _ gi _ hi => by have := (R.dom i gi hi).2; show gi.b ≠ w.heap.size; omega) ho

/-- cells made -/
theorem treeOf_get (vs : List AV) : ∀ (j : Nat) v, (treeOf vs).get j = some v → vs[j]? = some v := by
  have key : ∀ (vs : List AV) (off : Nat) (t : T AV) (j : Nat) v, (writeCells t off vs).get j = some v → (j < off ∧ t.get j = some v) ∨ (off ≤ j ∧ vs[j - off]? = some v) ∨ (off + vs.length ≤ j ∧ t.get j = some v) := by
    intro vs
    induction vs with
    | nil => intro off t j v h; simp only [writeCells] at h; by_cases hj : j < off
             · exact .inl ⟨hj, h⟩
             · exact .inr (.inr ⟨by simp; omega, h⟩)
    | cons x vs ih =>
      intro off t j v h
      simp only [writeCells] at h
      rcases ih _ _ j v h with ⟨h1, h2⟩ | ⟨h1, h2⟩ | ⟨h1, h2⟩
      · have h1' : j < off + 1 := h1
        rw [T.get_set] at h2
        split at h2
        · rename_i e; subst e; cases h2; exact .inr (.inl ⟨Nat.le_refl _, by simp⟩)
        · exact .inl ⟨by omega, h2⟩
      · have h1' : off + 1 ≤ j := h1
        refine .inr (.inl ⟨by omega, ?_⟩)
        have h2' : vs[j - (off + 1)]? = some v := h2
        rw [show j - off = (j - (off + 1)) + 1 from by omega]
        simpa using h2'
      · have h1' : off + 1 + vs.length ≤ j := h1
        rw [T.get_set] at h2
        split at h2
        · rename_i e; omega
        · exact .inr (.inr ⟨by simp; omega, h2⟩)
  intro j v h
  rcases key vs 0 .nil j v h with ⟨h1, _⟩ | ⟨_, h2⟩ | ⟨_, h2⟩
  · omega
  · simpa using h2
  · simp [T.get_nil] at h2
theorem writeCells_get (vs : List AV) : ∀ (off : Nat) (t : T AV) (j : Nat) v, (writeCells t off vs).get j = some v → (j < off ∧ t.get j = some v) ∨ (off ≤ j ∧ vs[j - off]? = some v) ∨ (off + vs.length ≤ j ∧ t.get j = some v) := by
  induction vs with
  | nil => intro off t j v h; simp only [writeCells] at h; by_cases hj : j < off
           · exact .inl ⟨hj, h⟩
           · exact .inr (.inr ⟨by simp; omega, h⟩)
  | cons x vs ih =>
    intro off t j v h
    simp only [writeCells] at h
    rcases ih _ _ j v h with ⟨h1, h2⟩ | ⟨h1, h2⟩ | ⟨h1, h2⟩
    · have h1' : j < off + 1 := h1
      rw [T.get_set] at h2
      split at h2
      · rename_i e; subst e; cases h2; exact .inr (.inl ⟨Nat.le_refl _, by simp⟩)
      · exact .inl ⟨by omega, h2⟩
    · have h1' : off + 1 ≤ j := h1
      refine .inr (.inl ⟨by omega, ?_⟩)
      have h2' : vs[j - (off + 1)]? = some v := h2
      rw [show j - off = (j - (off + 1)) + 1 from by omega]
      simpa using h2'
    · have h1' : off + 1 + vs.length ≤ j := h1
      rw [T.get_set] at h2
      split at h2
      · rename_i e; omega
      · exact .inr (.inr ⟨by simp; omega, h2⟩)

theorem ORel_cells_new {vs : List AV} {us : List Value} (hv : VRelL ρ' vs us) {g : Gh} {el : TypeId} {ro opn : Bool} {rest : List Value} (hb : w'.heap[g.b]? = some (.cells (us ++ rest).toArray el (0, 0))) (hd : g.d = 0) (hs : g.sz = us.length + rest.length) {e : Nat} (he : g.e = e) :
    ORel P ft ρ' w' g (.cells (treeOf vs) vs.length ro opn e) := by
  have hl := hv.length
  refine ⟨_, el, (0, 0), hb, by simp [hs], .inl rfl, by rw [hd, hs]; omega, he, fun j v hj hg => ?_⟩
  obtain ⟨u, h1, h2⟩ := hv.get j v (treeOf_get vs j v hg)
  refine ⟨u, ?_, h2⟩
  rw [hd, Nat.zero_add]
  simp only [List.getElem?_toArray]
  rw [List.getElem?_append_left (by omega)]; exact h1
end Go.Md
end
