import Derived.AtR
import Derived.Test.YtgpdolhclinjdaaGreatDoorM8
set_option linter.unusedVariables false
set_option linter.unusedSimpArgs false
set_option linter.unusedSectionVars false
section
/- THE OPERATIONS THAT WRITE OR MAKE: ALL OF THEM. No condition. -/
namespace Go.Md
open Go.RowKit (Below)
variable {P : Program} {ft : FT} {B : Nat} {w0 w w' : World} {ρ ρ' : Rho} {h h' : T AO} {nx nx' : Nat}

theorem cpy_ok (R : Rel P ft B w0 ρ h nx w) {t e : TypeId} (ht : P.underlying t = some (.slice e)) {esz : Nat} (hs : szOf P e = some esz) (ty : TypeId) {at_ : Array TypeId} (hat : at_[0]? = some t) {vs : List AV} {v : AV} (hq : sCpy esz vs h nx = some (v, h', nx'))
    {us : List Value} (hv : VRelL ρ vs us) : ∃ d s, us = [d, s] ∧ SOk P ft B w0 ρ w (Builtin.copy_ at_ ty #[d, s]) v h' nx' := by
  unfold sCpy at hq
  split at hq
  · rename_i id off len cap id' off' len' cap'
    obtain ⟨u1, u2, rfl, h1, h2⟩ := VRelL.two hv
    obtain ⟨g, c, hρ, rfl, hlc, _⟩ := h1
    obtain ⟨g', c', hρ', rfl, hlc', _⟩ := h2
    refine ⟨_, _, rfl, ?_⟩
    split at hq
    · rename_i vs' hl
      split at hq
      · rename_i h2 hst
        cases hq
        obtain ⟨cs, r1, r2, r3⟩ := loadCells_ok R hl hρ'
        obtain ⟨hrun, R'⟩ := storeCells_ok R hst hρ r1
        have hf : (Builtin.firstCells esz (Nat.min len' len) (.slice (some ⟨g'.b, g'.d + off', none⟩) len' c')).run P w = .ok cs.toArray w :=
          run_firstCells_some w esz (Nat.min len' len) ⟨g'.b, g'.d + off', none⟩ len' c' cs r2 (fun j u hu => by rw [add_addr]; exact r3 j u hu)
        refine ⟨ρ, _, goInt (Nat.min len' len), Rho.le.refl ρ, ?_, rfl, R'⟩
        · simp only [Builtin.copy_, hat, Sem.run_bind, run_und ht, Result.andThen_ok, Builtin.lenOf, Sem.run_pure, run_size hs, List.getElem?_toArray, List.getElem?_cons_zero, List.getElem?_cons_succ]
          simp [hf, hrun]
      · cases hq
    · cases hq
  · cases hq

theorem byteCells_vals {bits n : Nat} : byteCells ⟨(unpackN bits n).toArray⟩ = byteVals bits n := by
  apply List.ext_getElem?
  intro i
  by_cases hi : i < n
  · rw [byteVals_get _ _ _ hi]
    have := byt_lt bits i
    simp [byteCells, unpackN_get, hi, Nat.mod_eq_of_lt this]
  · rw [List.getElem?_eq_none (by simp [byteCells, unpackN_length]; omega), List.getElem?_eq_none (by rw [byteVals_length]; omega)]
theorem byteVals_one {bits n : Nat} : ∀ u ∈ byteVals bits n, u.oneCell' = true := by
  intro u hu
  simp only [byteVals, List.mem_map] at hu
  obtain ⟨_, _, rfl⟩ := hu
  rfl

theorem srcBytes_src (R : Rel P ft B w0 ρ h nx w) {tx : TypeId} (hk : (∃ e', P.underlying tx = some (.slice e')) ∨ P.underlying tx = some .string) {x : AV} {u : Value} (hx : VRel ρ x u) {bits n : Nat} (hs : srcBytes h x = some (bits, n)) :
    bits < 256 ^ n ∧ Src P 1 tx u n (byteVals bits n) w := by
  have nil : ∀ {a : Option Addr} {c : Nat}, Src P 1 tx (.slice a 0 c) 0 (byteVals 0 0) w := by
    intro a c
    cases a with
    | none => exact ⟨hk, fun _ => rfl, run_firstCells_none w 1 0 0 c, run_firstCells_none w.drew 1 0 0 c, rfl, byteVals_one⟩
    | some a => exact ⟨hk, fun _ => rfl, run_firstCells_some w 1 0 a 0 c [] rfl (by simp), run_firstCells_some w.drew 1 0 a 0 c [] rfl (by simp), rfl, byteVals_one⟩
  cases x <;> simp only [srcBytes] at hs <;> try (cases hs; done)
  case str b m =>
    cases hs
    obtain ⟨hb, rfl⟩ := hx
    have hsz : (⟨(unpackN bits n).toArray⟩ : ByteArray).size = n := by simp [ByteArray.size, unpackN_length]
    have h1 := firstCells_string (P := P) ⟨(unpackN bits n).toArray⟩ w
    have h2 := firstCells_string (P := P) ⟨(unpackN bits n).toArray⟩ w.drew
    rw [byteCells_vals, hsz] at h1 h2
    exact ⟨hb, hk, fun _ => by show Result.ok _ _ = _; rw [hsz], h1, h2, by rw [byteVals_length]; omega, byteVals_one⟩
  case snil => cases hs; cases hx; exact ⟨by decide, nil⟩
  case sle => cases hs; obtain ⟨a, c, rfl⟩ := hx; exact ⟨by decide, nil⟩
  case sl id off len cap =>
    obtain ⟨g, c, hρ, rfl, hlc, _⟩ := hx
    obtain ⟨rfl, hb, _, hc⟩ := srcB_ok (cap := cap) R (by simpa only [srcBytes] using hs) hρ
    exact ⟨hb, hk, fun _ => rfl, firstCells_at (by simp [byteVals_length]) hc, firstCells_at (by simp [byteVals_length]) (by simpa using hc), by simp [byteVals_length], byteVals_one⟩

theorem srcCells_src (R : Rel P ft B w0 ρ h nx w) {tx : TypeId} (hk : (∃ e', P.underlying tx = some (.slice e')) ∨ P.underlying tx = some .string) {esz : Nat} {x : AV} {u : Value} (hx : VRel ρ x u) {vs : List AV} {n : Nat} (hs : srcCells h esz x = some (vs, n)) (h1 : allOne vs = true) :
    ∃ news, VRelL ρ vs news ∧ Src P esz tx u n news w := by
  have nil : ∀ {a : Option Addr} {c : Nat}, Src P esz tx (.slice a 0 c) 0 [] w := by
    intro a c
    cases a with
    | none => exact ⟨hk, fun _ => rfl, run_firstCells_none w esz 0 0 c, run_firstCells_none w.drew esz 0 0 c, by simp, by simp⟩
    | some a => exact ⟨hk, fun _ => rfl, run_firstCells_some w esz 0 a 0 c [] (by simp) (by simp), run_firstCells_some w.drew esz 0 a 0 c [] (by simp) (by simp), by simp, by simp⟩
  cases x <;> simp only [srcCells] at hs <;> try (cases hs; done)
  case snil => cases hs; cases hx; exact ⟨[], rfl, nil⟩
  case sle => cases hs; obtain ⟨a, c, rfl⟩ := hx; exact ⟨[], rfl, nil⟩
  case sl id off len cap =>
    obtain ⟨g, c, hρ, rfl, hlc, _⟩ := hx
    obtain ⟨rfl, us, hus, hul, hc⟩ := srcC_ok (cap := cap) R (by simpa only [srcCells] using hs) hρ
    exact ⟨us, hus, hk, fun _ => rfl, firstCells_at hul hc, firstCells_at hul (by simpa using hc), hul, hus.oneCells h1⟩

theorem app_allOne {esz : Nat} {s v : AV} {vs : List AV} {n : Nat} (hq : appCells h nx esz s vs n = some (v, h', nx')) : n = 0 ∨ allOne vs = true := by
  unfold appCells at hq
  split at hq
  · split at hq
    · rename_i hn; exact .inl (eq_of_beq' hn)
    · split at hq
      · rename_i h1; exact .inr h1
      · cases hq
  · split at hq
    · rename_i hn; exact .inl (eq_of_beq' hn)
    · split at hq
      · cases hq
      · rename_i h1; exact .inr h1
  · cases hq

/-- nothing is appended -/
theorem app_nothing {esz : Nat} {s v : AV} {vs : List AV} {n : Nat} (hn : n = 0) (hq : appCells h nx esz s vs n = some (v, h', nx')) : v = s ∧ h' = h ∧ nx' = nx ∧ (s = .snil ∨ ∃ id off len cap, s = .sl id off len cap) := by
  subst hn
  unfold appCells at hq
  split at hq
  · cases hq; exact ⟨rfl, rfl, rfl, .inl rfl⟩
  · cases hq; exact ⟨rfl, rfl, rfl, .inr ⟨_, _, _, _, rfl⟩⟩
  · cases hq

theorem app_ok (R : Rel P ft B w0 ρ h nx w) {t tx e : TypeId} (ht : P.underlying t = some (.slice e)) (hk : (∃ e', P.underlying tx = some (.slice e')) ∨ P.underlying tx = some .string) {b : Bool} {esz : Nat} {zs : List AV} (he : elT P e = some (b, esz, zs)) (ty : TypeId)
    {vs : List AV} {v : AV} (hq : sApp b esz vs h nx = some (v, h', nx')) {us : List Value} (hv : VRelL ρ vs us) : ∃ s x, us = [s, x] ∧ SOk P ft B w0 ρ w (Builtin.append_ #[t, tx] ty #[s, x]) v h' nx' := by
  obtain ⟨⟨E⟩, hby⟩ := elT_spec he
  unfold sApp at hq
  split at hq
  · rename_i s x
    obtain ⟨su, xu, rfl, hs, hx⟩ := VRelL.two hv
    refine ⟨su, xu, rfl, ?_⟩
    split at hq
    · obtain ⟨rfl, rfl, _⟩ := hby rfl
      split at hq
      · rename_i bits n hsb
        obtain ⟨hb, hS⟩ := srcBytes_src R hk hx hsb
        have A := AppR.ofSrc (ty := ty) ht E (by rw [E.size]; exact hS)
        rw [E.size] at A
        exact appBytes_ok A E.zsize hb R hs hq
      · cases hq
    · split at hq
      · rename_i l n hsc
        rcases app_allOne hq with hn | h1
        · -- nothing
          have hS0 : Src P esz tx xu 0 [] w := by
            subst hn
            cases x <;> simp only [srcCells] at hsc <;> try (cases hsc; done)
            case snil => cases hx; exact ⟨hk, fun _ => rfl, run_firstCells_none w esz 0 0 0, run_firstCells_none w.drew esz 0 0 0, by simp, by simp⟩
            case sle => obtain ⟨a, c, rfl⟩ := hx; exact ⟨hk, fun _ => rfl, run_firstCells_some w esz 0 a 0 c [] (by simp) (by simp), run_firstCells_some w.drew esz 0 a 0 c [] (by simp) (by simp), by simp, by simp⟩
            case sl id off len cap =>
              obtain ⟨g, c, hρ, rfl, hlc, _⟩ := hx
              obtain ⟨rfl, _⟩ := srcC_ok (cap := cap) R (by simpa only [srcCells] using hsc) hρ
              exact ⟨hk, fun _ => rfl, run_firstCells_some w esz 0 _ 0 c [] (by simp) (by simp), run_firstCells_some w.drew esz 0 _ 0 c [] (by simp) (by simp), by simp, by simp⟩
          have A := AppR.ofSrc (ty := ty) ht E (by rw [E.size]; exact hS0)
          obtain ⟨rfl, rfl, rfl, hsh⟩ := app_nothing hn hq
          rcases hsh with rfl | ⟨id, off, len, cap, rfl⟩
          · cases hs
            exact ⟨ρ, w, _, Rho.le.refl ρ, A.nothing rfl none 0 0 (Nat.le_refl _), rfl, R⟩
          · obtain ⟨g, c, hρ, rfl, hlc, hcap⟩ := hs
            exact ⟨ρ, w, _, Rho.le.refl ρ, A.nothing rfl _ len c hlc, ⟨g, c, hρ, rfl, hlc, hcap⟩, R⟩
        · obtain ⟨news, hnews, hS⟩ := srcCells_src R hk hx hsc h1
          have A := AppR.ofSrc (ty := ty) ht E (by rw [E.size]; exact hS)
          rw [E.size] at A
          exact appCells_ok A E.zsize hnews R hs hq
      · cases hq
  · cases hq

theorem appz_ok (R : Rel P ft B w0 ρ h nx w) {t tx e : TypeId} {ik : IntKind} (ht : P.underlying t = some (.slice e)) (hk : P.underlying tx = some (.int ik)) {b : Bool} {esz : Nat} {zs : List AV} (he : elT P e = some (b, esz, zs)) (hz1 : allOne zs = true) (ty : TypeId)
    {vs : List AV} {v : AV} (hq : sAppz b esz zs vs h nx = some (v, h', nx')) {us : List Value} (hv : VRelL ρ vs us) : ∃ s x, us = [s, x] ∧ SOk P ft B w0 ρ w (Builtin.append_ #[t, tx] ty #[s, x]) v h' nx' := by
  obtain ⟨⟨E⟩, hby⟩ := elT_spec he
  have hone := (E.zrel ρ).oneCells hz1
  unfold sAppz at hq
  split at hq
  · rename_i s k n
    obtain ⟨su, xu, rfl, hs, hx⟩ := VRelL.two hv
    cases hx
    refine ⟨su, _, rfl, ?_⟩
    split at hq
    · rename_i hn
      have A := AppR.ofZeros (w := w) (ty := ty) ht hk E hone k n (le_of_ble hn)
      rw [E.size] at A
      have hmr := madeRel (E.zrel ρ) (by rw [E.zsize]; exact E.pos) n
      have hzc : (Builtin.zeroCells E.z.cells n).toList = ((Array.range (n * E.z.cells.size)).map (E.z.cells[· % E.z.cells.size]!)).toList := rfl
      split at hq
      · obtain ⟨rfl, rfl, _⟩ := hby rfl
        have hb : (Builtin.zeroCells E.z.cells n).toList = byteVals 0 n := by
          rw [hzc]
          have hl := hmr.length
          rw [repl_length] at hl
          have hz0 : ∀ n (i : Nat) v, (repl [AV.int IntKind.u8 (Int.ofNat 0)] n)[i]? = some v → v = .int .u8 (Int.ofNat 0) := by
            intro n
            induction n with
            | zero => intro i v h; simp [repl] at h
            | succ n ih =>
              intro i v h
              cases i with
              | zero => simp [repl] at h; exact h.symm
              | succ i => simp [repl] at h; exact ih i v h
          apply List.ext_getElem?
          intro i
          by_cases hi : i < n
          · rw [byteVals_get _ _ _ hi]
            have hlt : i < (repl [AV.int IntKind.u8 (Int.ofNat 0)] n).length := by rw [repl_length]; simpa using hi
            obtain ⟨u, hu1, hu2⟩ := hmr.get i _ (List.getElem?_eq_getElem hlt)
            rw [hz0 n i _ (List.getElem?_eq_getElem hlt)] at hu2
            rw [hu1, hu2]
            simp [byt_def]
          · rw [List.getElem?_eq_none (by rw [hl]; simpa using hi), List.getElem?_eq_none (by rw [byteVals_length]; omega)]
        rw [hb] at A
        exact appBytes_ok A E.zsize (Nat.pow_pos (by decide)) R hs hq
      · rw [hzc] at A
        exact appCells_ok A E.zsize hmr R hs hq
    · cases hq
  · cases hq
end Go.Md
end
section
/- THE OPERATIONS THAT WRITE OR MAKE: 'sop_ok'. No condition. -/
namespace Go.Md
open Go.RowKit (Below)
variable {P : Program} {ft : FT} {B : Nat} {w0 w w' : World} {ρ ρ' : Rho} {h h' : T AO} {nx nx' : Nat}

/-- an operation's end: a value or none, a new heap -/
def SYld (P : Program) (ft : FT) (B : Nat) (w0 : World) (ρ : Rho) (w : World) (ev : Operand → Value) (o : Oper) (v : AV) (h' : T AO) (nx' : Nat) : Prop :=
  ∃ ρ' w' u n, ρ.le ρ' ∧ (execOp ev o).run P w = .ok n w' ∧ (n = .value u ∨ (n = .skip ∧ u = undef)) ∧ VRel ρ' v u ∧ Rel P ft B w0 ρ' h' nx' w'

theorem sop_ok (R : Rel P ft B w0 ρ h nx w) {ev : Operand → Value} {o : Oper} {k : SK} {xs : List Operand} (hc : compS P o.op = some (k, xs)) {vs : List AV} {v : AV} (hv : VRelL ρ vs (xs.map ev)) (hq : sop k vs h nx = some (v, h', nx')) :
    SYld P ft B w0 ρ w ev o v h' nx' := by
  have val : ∀ {s : Sem Value}, execOp ev o = (do pure (Next.value (← s))) → SOk P ft B w0 ρ w s v h' nx' → SYld P ft B w0 ρ w ev o v h' nx' := by
    rintro s he ⟨ρ', w', u, h1, h2, h3, h4⟩
    exact ⟨ρ', w', u, .value u, h1, by rw [he]; exact run_v h2, .inl rfl, h3, h4⟩
  have unit : ∀ {s : Sem Unit} {w' : World}, execOp ev o = (do s; pure .skip) → s.run P w = .ok () w' → v = .undef → Rel P ft B w0 ρ h' nx' w' → SYld P ft B w0 ρ w ev o v h' nx' := by
    rintro s w' he h2 rfl h4
    exact ⟨ρ, w', undef, .skip, Rho.le.refl ρ, by rw [he]; simp [h2], .inr ⟨rfl, rfl⟩, rfl, h4⟩
  cases ho : o.op <;> rw [ho] at hc <;> simp only [compS] at hc
  all_goals try (cases hc; done)
  case convert s d x =>
    split at hc
    · rename_i e hs hd
      split at hc
      · rename_i he
        cases hc
        obtain ⟨y, e1, hr⟩ := s2b_ok R hs hd he hq hv
        cases e1
        exact val (by simp [execOp, ho]) hr
      · cases hc
    · rename_i e' e hs hd
      split at hc
      · rename_i he
        simp only [Bool.and_eq_true, beq_iff_eq] at he
        obtain ⟨rfl, he⟩ := he
        cases hc
        obtain ⟨y, e1, hr⟩ := mstr_ok R hd he hq hv
        cases e1
        exact val (by simp [execOp, ho]) hr
      · cases hc
    · cases hc
  case alloc e =>
    cases hz : zeroCells? P e with
    | none => simp [hz] at hc
    | some z =>
      simp [hz] at hc
      obtain ⟨rfl, rfl⟩ := hc
      exact val (by simp [execOp, ho]) (alloc_ok R hz hq (.tuple #[]))
  case box e x =>
    cases hc
    obtain ⟨y, e1, hr⟩ := box_ok R (e := e) hq hv
    cases e1
    exact val (by simp [execOp, ho]) hr
  case buildSlice t n parts =>
    split at hc
    · rename_i e ht
      split at hc
      · rename_i b z zs he
        split at hc
        · rename_i hsm
          cases hc
          have := bsl_ok R ht he hsm parts.toList ev hq hv
          simp only [Array.toArray_toList] at this
          exact val (by simp [execOp, ho]) this
        · cases hc
      · cases hc
    · cases hc
  case store t a x =>
    cases hz : szOf P t with
    | none => simp [hz] at hc
    | some n =>
      simp [hz] at hc
      obtain ⟨rfl, rfl⟩ := hc
      obtain ⟨a', x', w', e1, hr, hv0, R'⟩ := st_ok R hz hq hv
      cases e1
      exact unit (by simp [execOp, ho]) hr hv0 R'
  case mapUpdate t m k' x =>
    split at hc
    · rename_i kt e ht
      cases hk : keyShape P kt with
      | none => simp [hk] at hc
      | some s =>
        simp [hk] at hc
        obtain ⟨rfl, rfl⟩ := hc
        obtain ⟨a', b', x', w', e1, hr, hv0, R'⟩ := mu_ok R ht hk hq hv
        cases e1
        exact unit (by simp [execOp, ho]) hr hv0 R'
    · cases hc
  case insert t m k' x =>
    split at hc
    · rename_i kt e ht
      cases hk : keyShape P kt with
      | none => simp [hk] at hc
      | some s =>
        simp [hk] at hc
        obtain ⟨rfl, rfl⟩ := hc
        obtain ⟨a', b', x', w', e1, hr, hv0, R'⟩ := mu_ok R ht hk hq hv
        cases e1
        exact unit (by simp [execOp, ho]) hr hv0 R'
    · cases hc
  case makeMap t r =>
    split at hc
    · rename_i kt e ht
      cases hk : keyShape P kt with
      | none => simp [hk] at hc
      | some s =>
        simp [hk] at hc
        obtain ⟨rfl, rfl⟩ := hc
        exact val (by simp [execOp, ho]) (mkm_ok R ht hq hv)
    · cases hc
  case makeSlice t l c =>
    split at hc
    · rename_i e ht
      split at hc
      · rename_i b n z he
        cases hc
        obtain ⟨l', c', e1, hr⟩ := mks_ok R ht he hq hv
        cases e1
        exact val (by simp [execOp, ho]) hr
      · cases hc
    · cases hc
  case range t x =>
    split at hc
    · rename_i kt e ht
      cases hc
      obtain ⟨y, e1, hr⟩ := rngm_ok R ht hq hv
      cases e1
      exact val (by simp [execOp, ho]) hr
    · cases hc
  case call c =>
    unfold compCallS at hc
    have bi : ∀ {b : Builtin} {s : Array Value → Sem Value} {xs : List Operand}, c.callee = .builtin b → c.args.toList = xs → (∀ a, builtin b c.argTypes o.type (c.args.map fun | .const _ => true | _ => false) a = (do pure (Next.value (← s a)))) →
        SOk P ft B w0 ρ w (s (xs.map ev).toArray) v h' nx' → SYld P ft B w0 ρ w ev o v h' nx' := by
      intro b s xs hb hx hs hr
      have hargs : c.args.map ev = (xs.map ev).toArray := by rw [← hx]; apply Array.ext'; simp
      obtain ⟨ρ', w', u, h1, h2, h3, h4⟩ := hr
      refine ⟨ρ', w', u, .value u, h1, ?_, .inl rfl, h3, h4⟩
      simp only [execOp, ho, resolve, hb, Sem.run_bind, Sem.run_pure, Result.andThen_ok, invoke, hargs]
      exact (congrArg (fun s => s.run P w) (hs _)).trans (run_v h2)
    split at hc
    · rename_i hcal
      split at hc
      · rename_i t xt s x hat hx
        split at hc
        · rename_i e ht
          have hat' : c.argTypes = #[t, xt] := by rw [← Array.toArray_toList (xs := c.argTypes), hat]
          split at hc
          · rename_i b n z ik he hk
            split at hc
            · rename_i hz1
              cases hc
              obtain ⟨s', x', e1, hr⟩ := appz_ok R ht hk he hz1 o.type hq hv
              refine bi (s := fun a => Builtin.append_ c.argTypes o.type a) hcal hx (fun a => rfl) ?_
              rw [e1, hat']
              exact hr
            · cases hc
          · rename_i b n z e' he hk
            cases hc
            obtain ⟨s', x', e1, hr⟩ := app_ok R ht (.inl ⟨_, hk⟩) he o.type hq hv
            refine bi (s := fun a => Builtin.append_ c.argTypes o.type a) hcal hx (fun a => rfl) ?_
            rw [e1, hat']
            exact hr
          · rename_i b n z he hk
            split at hc
            · cases hc
              obtain ⟨s', x', e1, hr⟩ := app_ok R ht (.inr hk) he o.type hq hv
              refine bi (s := fun a => Builtin.append_ c.argTypes o.type a) hcal hx (fun a => rfl) ?_
              rw [e1, hat']
              exact hr
            · cases hc
          · cases hc
        · cases hc
      · cases hc
    · rename_i hcal
      split at hc
      · rename_i t d s hat hx
        split at hc
        · rename_i e ht
          cases hz : szOf P e with
          | none => simp [hz] at hc
          | some n =>
            simp [hz] at hc
            obtain ⟨rfl, rfl⟩ := hc
            obtain ⟨s', x', e1, hr⟩ := cpy_ok R ht hz o.type hat hq hv
            refine bi (s := fun a => Builtin.copy_ c.argTypes o.type a) hcal hx (fun a => rfl) ?_
            rw [e1]
            exact hr
        · cases hc
      · cases hc
    · rename_i hcal
      split at hc
      · rename_i t m k' hat hx
        split at hc
        · rename_i kt e ht
          cases hk : keyShape P kt with
          | none => simp [hk] at hc
          | some s =>
            simp [hk] at hc
            obtain ⟨rfl, rfl⟩ := hc
            obtain ⟨s', x', w', e1, hr, hv0, R'⟩ := del_ok R ht hk o.type hat hq hv
            refine bi (s := fun a => Builtin.delete_ c.argTypes o.type a) hcal hx (fun a => rfl) ?_
            rw [e1]
            exact ⟨ρ, w', .tuple #[], Rho.le.refl ρ, hr, by rw [hv0]; rfl, R'⟩
        · cases hc
      · cases hc
    · cases hc
end Go.Md
end
section
/- THE ORDERS OF A REGION THAT DRAWS: each lists all operations once, each behind what leads to it. No condition. -/
namespace Go.Md

theorem mem_preds {ops : Array Oper} {i : Nat} {o : Oper} (ho : ops[i]? = some o) {p : Nat} : p ∈ preds ops i ↔ ∃ e ∈ o.after, Region.binds .any e = true ∧ e.on = p := by
  unfold preds
  rw [ho]
  simp only [List.mem_map, List.mem_filter, Array.mem_toList_iff]
  constructor
  · rintro ⟨e, ⟨h1, h2⟩, h3⟩; exact ⟨e, h1, h2, h3⟩
  · rintro ⟨e, h1, h2, h3⟩; exact ⟨e, ⟨h1, h2⟩, h3⟩

structure Lin (ops : Array Oper) (ord : List Nat) : Prop where
  nodup : ord.Nodup
  lt : ∀ i ∈ ord, i < ops.size
  pre : ∀ A i C, ord = A ++ i :: C → ∀ p ∈ preds ops i, p ∈ A

theorem go_lin {ops : Array Oper} (hac : ∀ i, i < ops.size → ∀ p ∈ preds ops i, p < i) : ∀ (fuel t : Nat) (listed : Array Bool) (acc : List Nat), listed.size = ops.size → (∀ i, i < ops.size → (listed.getD i false = true ↔ i ∈ acc)) → acc.length + fuel = ops.size →
    Lin ops acc.reverse → Lin ops (Region.linearise.go .any ops fuel t listed acc) ∧ (Region.linearise.go .any ops fuel t listed acc).length = ops.size
  | 0, t, listed, acc, hl, hm, hf, hL => by
    simp only [Region.linearise.go]
    exact ⟨hL, by simpa using hf⟩
  | fuel + 1, t, listed, acc, hl, hm, hf, hL => by
    simp only [Region.linearise.go]
    have hready : ∀ i, i ∈ ((List.range ops.size).filter fun i => !listed.getD i true && ((ops[i]?).map (·.after.all fun e => !Region.binds .any e || listed.getD e.on false)).getD false) ↔ i < ops.size ∧ i ∉ acc ∧ ∀ p ∈ preds ops i, p ∈ acc := by
      intro i
      rw [List.mem_filter, List.mem_range]
      constructor
      · rintro ⟨h1, h2⟩
        simp only [Bool.and_eq_true, Bool.not_eq_true'] at h2
        obtain ⟨h3, h4⟩ := h2
        have ho : ops[i]? = some ops[i] := Array.getElem?_eq_getElem h1
        rw [ho] at h4
        simp only [Option.map_some, Option.getD_some, Array.all_eq_true_iff_forall_mem] at h4
        refine ⟨h1, fun hmem => ?_, fun p hp => ?_⟩
        · have := (hm i h1).2 hmem
          have e1 : listed.getD i true = listed.getD i false := by simp [Array.getD_eq_getD_getElem?, Array.getElem?_eq_getElem (show i < listed.size by omega)]
          rw [e1, this] at h3; cases h3
        · obtain ⟨e, he, hb, rfl⟩ := (mem_preds ho).1 hp
          have := h4 e he
          rw [hb] at this
          exact (hm _ (by have := hac i h1 _ hp; omega)).1 (by simpa using this)
      · rintro ⟨h1, h2, h3⟩
        refine ⟨h1, ?_⟩
        have ho : ops[i]? = some ops[i] := Array.getElem?_eq_getElem h1
        have e1 : listed.getD i true = listed.getD i false := by simp [Array.getD_eq_getD_getElem?, Array.getElem?_eq_getElem (show i < listed.size by omega)]
        have e2 : listed.getD i false = false := by
          cases hx : listed.getD i false with
          | false => rfl
          | true => exact absurd ((hm i h1).1 hx) h2
        rw [e1, e2, ho]
        simp only [Bool.not_false, Option.map_some, Option.getD_some, Bool.true_and, Array.all_eq_true_iff_forall_mem]
        intro e he
        cases hb : Region.binds .any e with
        | false => rfl
        | true =>
          have hp : e.on ∈ preds ops i := (mem_preds ho).2 ⟨e, he, hb, rfl⟩
          simp only [Bool.not_true, Bool.false_or]
          exact (hm _ (by have := hac i h1 _ hp; omega)).2 (h3 _ hp)
    generalize hrs : ((List.range ops.size).filter fun i => !listed.getD i true && ((ops[i]?).map (·.after.all fun e => !Region.binds .any e || listed.getD e.on false)).getD false) = rs at hready
    -- one is ready
    have hne : rs ≠ [] := by
      have hex : ∃ i, i < ops.size ∧ i ∉ acc := by
        apply Classical.byContradiction
        intro hno
        have hall : ∀ i ∈ List.range ops.size, i ∈ acc := fun i hi => Classical.byContradiction fun h => hno ⟨i, List.mem_range.1 hi, h⟩
        have := (List.nodup_range (n := ops.size)).length_le_of_subset hall
        simp at this
        omega
      have hmin : ∀ n i, i ≤ n → i < ops.size → i ∉ acc → ∃ j, j < ops.size ∧ j ∉ acc ∧ ∀ p, p < j → p ∈ acc := by
        intro n
        induction n with
        | zero => intro i hi h1 h2; exact ⟨i, h1, h2, fun p hp => by omega⟩
        | succ n ih =>
          intro i hi h1 h2
          by_cases hall : ∀ p, p < i → p ∈ acc
          · exact ⟨i, h1, h2, hall⟩
          · obtain ⟨p, hp⟩ := Classical.not_forall.1 hall
            obtain ⟨hp1, hp2⟩ := Classical.not_imp.1 hp
            exact ih p (by omega) (by omega) hp2
      obtain ⟨i, h1, h2⟩ := hex
      obtain ⟨j, h3, h4, h5⟩ := hmin i i (Nat.le_refl _) h1 h2
      have : j ∈ rs := (hready j).2 ⟨h3, h4, fun p hp => h5 p (hac j h3 p hp)⟩
      intro h0; rw [h0] at this; cases this
    have hlt : t % rs.length < rs.length := Nat.mod_lt _ (List.length_pos_iff.2 hne)
    rw [List.getElem?_eq_getElem hlt]
    simp only
    have hin : rs[t % rs.length] ∈ rs := List.getElem_mem hlt
    generalize rs[t % rs.length] = i at hin
    obtain ⟨h1, h2, h3⟩ := (hready i).1 hin
    refine go_lin hac fuel _ _ (i :: acc) (by simpa using hl) (fun j hj => ?_) (by simp; omega) ⟨?_, ?_, ?_⟩
    · by_cases e : i = j
      · subst e
        simp [Array.getD_eq_getD_getElem?, Array.getElem?_setIfInBounds_self_of_lt (show i < listed.size by omega)]
      · have : (listed.setIfInBounds i true).getD j false = listed.getD j false := by simp [Array.getD_eq_getD_getElem?, Array.getElem?_setIfInBounds_ne e]
        rw [this, hm j hj]
        simp [Ne.symm e]
    · simp only [List.reverse_cons]
      rw [List.nodup_append]
      refine ⟨hL.nodup, by simp, fun a ha b hb => ?_⟩
      simp at hb ha
      subst hb
      intro e; subst e; exact h2 ha
    · intro j hj
      simp only [List.reverse_cons, List.mem_append, List.mem_singleton] at hj
      rcases hj with hj | hj
      · exact hL.lt j hj
      · rw [hj]; exact h1
    · intro A j C he p hp
      simp only [List.reverse_cons] at he
      rcases List.eq_nil_or_concat C with rfl | ⟨C', c, rfl⟩
      · have := List.append_inj' he rfl
        obtain ⟨e1, e2⟩ := this
        cases e2
        rw [← e1]; simp; exact h3 p hp
      · have : acc.reverse ++ [i] = (A ++ j :: C') ++ [c] := by rw [he]; simp
        obtain ⟨e1, _⟩ := List.append_inj' this rfl
        exact hL.pre A j C' e1 p hp

theorem linearise_lin {ops : Array Oper} (hac : ∀ i, i < ops.size → ∀ p ∈ preds ops i, p < i) (t : Nat) : Lin ops (Region.linearise .any ops t) ∧ (Region.linearise .any ops t).length = ops.size := by
  unfold Region.linearise
  refine go_lin hac ops.size t _ [] (by simp) (fun i hi => ?_) (by simp) ⟨by simp, by simp, fun A i C h => by simp at h⟩
  simp [Array.getD_eq_getD_getElem?, hi]
theorem Lin.full {ops : Array Oper} {ord : List Nat} (h : Lin ops ord) (hl : ord.length = ops.size) : ∀ i, i < ops.size → i ∈ ord := by
  intro i hi
  apply Classical.byContradiction
  intro hn
  have hnd : (i :: ord).Nodup := List.nodup_cons.2 ⟨hn, h.nodup⟩
  have hsub : ∀ j ∈ i :: ord, j ∈ List.range ops.size := fun j hj => by
    rcases List.mem_cons.1 hj with rfl | hj
    · exact List.mem_range.2 hi
    · exact List.mem_range.2 (h.lt j hj)
  have := hnd.length_le_of_subset hsub
  simp at this
  omega
end Go.Md
end
section
/- FRAMES AND SEGMENTS: operands on both sides, an operation's step. No condition. -/
namespace Go.Md
variable {P : Program} {ft : FT} {B : Nat} {w0 w w' : World} {ρ ρ' : Rho} {h h' : T AO} {nx nx' : Nat}

theorem nth_zero (v : AV) (l : List AV) : nth (v :: l) 0 = v := rfl
theorem nth_succ (v : AV) (l : List AV) (j : Nat) : nth (v :: l) (j + 1) = nth l j := rfl

theorem idxOf_succ (t : Nat) : ∀ (Δ : List (Option Nat)) (n : Nat), idxOf t Δ (n + 1) = (idxOf t Δ n).map (· + 1)
  | [], n => rfl
  | d :: r, n => by
    cases d with
    | none => simp only [idxOf]; exact idxOf_succ t r (n + 1)
    | some u =>
      simp only [idxOf]
      split
      · rfl
      · exact idxOf_succ t r (n + 1)

/-- the values of a segment, the temporaries: on both sides -/
structure EnvR (ρ : Rho) (n trk : Nat) (tm : T AV) (Δ : List (Option Nat)) (env : List AV) (tmps : Array Value) : Prop where
  size : n ≤ tmps.size
  lt : ∀ t, some t ∈ Δ → t < n
  new : ∀ t j, idxOf t Δ 0 = some j → VRel ρ (nth env j) (tmps.getD t undef)
  old : ∀ t v, trk.testBit t = true → idxOf t Δ 0 = none → tm.get t = some v → VRel ρ v (tmps.getD t undef)

theorem getD_set {tmps : Array Value} {t : Nat} (u : Value) (ht : t < tmps.size) : (tmps.setIfInBounds t u).getD t undef = u := by
  simp [Array.getD_eq_getD_getElem?, Array.getElem?_setIfInBounds_self_of_lt ht]
theorem getD_set_other {tmps : Array Value} {t s : Nat} (u : Value) (h : t ≠ s) : (tmps.setIfInBounds t u).getD s undef = tmps.getD s undef := by
  simp [Array.getD_eq_getD_getElem?, Array.getElem?_setIfInBounds_ne h]

theorem EnvR.push {n trk : Nat} {tm : T AV} {Δ : List (Option Nat)} {env : List AV} {a : Act} (E : EnvR ρ n trk tm Δ env a.tmps) {d : Option Nat} (hd : ∀ t, d = some t → t < n) {v : AV} {u : Value} (hu : VRel ρ v u) : EnvR ρ n trk tm (d :: Δ) (v :: env) (a.put d u).tmps := by
  cases d with
  | none =>
    refine ⟨E.size, fun t ht => ?_, fun t j hj => ?_, fun t v ht hn hv => ?_⟩
    · rcases List.mem_cons.1 ht with h | h
      · cases h
      · exact E.lt t h
    · simp only [idxOf, idxOf_succ] at hj
      obtain ⟨i, hi, rfl⟩ := Option.map_eq_some_iff.1 hj
      exact E.new t i hi
    · simp only [idxOf, idxOf_succ, Option.map_eq_none_iff] at hn
      exact E.old t v ht hn hv
  | some s =>
    have hs := hd s rfl
    have hsz : s < a.tmps.size := Nat.lt_of_lt_of_le hs E.size
    refine ⟨by simpa [Act.put] using E.size, fun t ht => ?_, fun t j hj => ?_, fun t v ht hn hv => ?_⟩
    · rcases List.mem_cons.1 ht with h | h
      · cases h; exact hs
      · exact E.lt t h
    · simp only [idxOf, idxOf_succ] at hj
      split at hj
      · rename_i e
        subst e
        cases hj
        simp only [Act.put, getD_set u hsz]
        exact hu
      · rename_i e
        obtain ⟨i, hi, rfl⟩ := Option.map_eq_some_iff.1 hj
        simp only [Act.put, getD_set_other u e]
        exact E.new t i hi
    · simp only [idxOf, idxOf_succ] at hn
      split at hn
      · cases hn
      · rename_i e
        simp only [Option.map_eq_none_iff] at hn
        simp only [Act.put, getD_set_other u e]
        exact E.old t v ht hn hv

/-- an operand of D stands for one of the model -/
def XOk (P : Program) (ρ : Rho) (trk : Nat) (tm : T AV) (Δ : List (Option Nat)) (env : List AV) (a : Act) (x : Operand) : Prop :=
  ∀ dx v, mapX P trk Δ x = some dx → evalX tm env dx = some v → VRel ρ v (a.eval x)

theorem xok_plain (R : Rel P ft B w0 ρ h nx w) {trk : Nat} {tm : T AV} {Δ : List (Option Nat)} {env : List AV} {a : Act} {x : Operand} (hx : ∀ t, x ≠ .tmp t) : XOk P ρ trk tm Δ env a x := by
  intro dx v hm hv
  cases x with
  | tmp t => exact absurd rfl (hx t)
  | const c =>
    simp only [mapX, Option.map_eq_some_iff] at hm
    obtain ⟨av, h1, rfl⟩ := hm
    cases hv
    exact aconst_rel h1
  | global g =>
    simp only [mapX] at hm
    split at hm
    · rename_i hg
      cases hm
      cases hv
      have hlt : g < P.globals.size := by
        obtain ⟨x, hx⟩ := Option.isSome_iff_exists.1 hg
        exact (Array.getElem?_eq_some_iff.1 hx).1
      obtain ⟨gh, h1, h2, h3⟩ := R.glob g hlt
      exact ⟨gh, h1, by rw [h2, h3]; rfl⟩
    · cases hm
  | func f =>
    cases hm
    cases hv
    exact ⟨[], [], rfl, rfl, rfl⟩
theorem EnvR.xok {n trk : Nat} {tm : T AV} {Δ : List (Option Nat)} {env : List AV} {a : Act} (E : EnvR ρ n trk tm Δ env a.tmps) (R : Rel P ft B w0 ρ h nx w) (x : Operand) : XOk P ρ trk tm Δ env a x := by
  by_cases hx : ∃ t, x = .tmp t
  · obtain ⟨t, rfl⟩ := hx
    intro dx v hm hv
    simp only [mapX] at hm
    split at hm
    · rename_i j hj
      cases hm
      cases hv
      exact E.new t j hj
    · rename_i hj
      split at hm
      · rename_i ht
        cases hm
        exact E.old t v ht hj hv
      · cases hm
  · exact xok_plain R fun t e => hx ⟨t, e⟩

theorem mapXs_ok {trk : Nat} {tm : T AV} {Δ : List (Option Nat)} {env : List AV} {a : Act} : ∀ {xs : List Operand} {ds : List DX} {vs : List AV}, (∀ x ∈ xs, XOk P ρ trk tm Δ env a x) → mapXs P trk Δ xs = some ds → evalXs tm env ds = some vs → VRelL ρ vs (xs.map a.eval)
  | [], ds, vs, _, hm, hv => by cases hm; cases hv; rfl
  | x :: xs, ds, vs, hx, hm, hv => by
    simp only [mapXs] at hm
    split at hm
    · rename_i d r h1 h2
      cases hm
      simp only [evalXs] at hv
      split at hv
      · rename_i v hv1
        split at hv
        · rename_i l hl
          cases hv
          exact ⟨_, _, rfl, hx x (by simp) d v h1 hv1, mapXs_ok (fun y hy => hx y (by simp [hy])) h2 hl⟩
        · cases hv
      · cases hv
    · cases hm

/-- a guard -/
theorem guard_ok {trk : Nat} {tm : T AV} {Δ : List (Option Nat)} {env : List AV} {a : Act} {ops : Array Oper} {o : Oper} {g : Option (DX × Bool)} (hg : regG P trk ops Δ o.guard = some g)
    (hx : ∀ j w t, o.guard = some (j, w) → (ops[j]?).bind (·.dst) = some t → XOk P ρ trk tm Δ env a (.tmp t)) {b : Bool} (hb : guardOk tm env g = some b) : Region.wanted o (yielded ops a.tmps) = b := by
  cases ho : o.guard with
  | none =>
    rw [ho] at hg
    cases hg
    cases hb
    simp [Region.wanted, ho]
  | some jw =>
    obtain ⟨j, want⟩ := jw
    rw [ho] at hg
    simp only [regG] at hg
    split at hg
    · rename_i t ht
      obtain ⟨dx, h1, h2⟩ := Option.map_eq_some_iff.1 hg
      subst h2
      simp only [Region.wanted, ho, yielded, ht, Option.bind_some]
      simp only [guardOk] at hb
      have hX := hx j want t ho ht dx
      split at hb
      · rename_i c hc
        cases hb
        have := hX _ h1 hc
        have hv : a.tmps.getD t undef = .bool c := this
        cases ha : a.tmps[t]? with
        | none => simp [Array.getD_eq_getD_getElem?, ha, undef] at hv
        | some u =>
          simp [Array.getD_eq_getD_getElem?, ha] at hv
          subst hv
          cases c <;> cases want <;> rfl
      · rename_i v hv hc
        cases hb
        have hr := hX _ h1 hc
        have hnb : ∀ c, a.tmps.getD t undef ≠ .bool c := by
          intro c e
          change VRel ρ v (a.tmps.getD t undef) at hr
          rw [e] at hr
          cases v with
          | bool b => exact hv b rfl
          | undef => cases hr
          | int _ _ => cases hr
          | str _ _ => obtain ⟨_, h⟩ := hr; cases h
          | pnil => cases hr
          | ptr _ _ => obtain ⟨_, _, h⟩ := hr; cases h
          | snil => cases hr
          | sle => obtain ⟨_, _, h⟩ := hr; cases h
          | sl _ _ _ _ => obtain ⟨_, _, _, h, _⟩ := hr; cases h
          | mnil => cases hr
          | mp _ => obtain ⟨_, _, h⟩ := hr; cases h
          | fv _ _ _ => obtain ⟨_, _, h, _⟩ := hr; cases h
          | fy _ => obtain ⟨_, _, h⟩ := hr; cases h
          | fnil => cases hr
          | inil => cases hr
          | ifc _ _ => obtain ⟨_, h, _⟩ := hr; cases h
          | agg _ => obtain ⟨_, h, _⟩ := hr; cases h
          | tup _ => obtain ⟨_, h, _⟩ := hr; cases h
        cases ha : a.tmps[t]? with
        | none => rfl
        | some u =>
          have hu : a.tmps.getD t undef = u := by simp [Array.getD_eq_getD_getElem?, ha]
          have := hnb
          rw [hu] at this
          cases u with
          | bool c => exact absurd rfl (this c)
          | _ => rfl
      · cases hb
    · cases hg

/-! an operation's step -/
section steps
variable {b : Frame} {a : Act} {k : List Item} {cs : List Frame} {ops : Array Oper} {i : Nat} {rest : List Nat} {o : Oper}
theorem step_value {v : Value} (ho : ops[i]? = some o) (hw : Region.wanted o (yielded ops a.tmps) = true) (hnd : ∀ c, o.op ≠ .defer c) (hr : (execOp a.eval o).run P w = .ok (.value v) w') :
    Go.step P (lone (b.atR a (.inRegion ops (i :: rest) :: k)) cs w) = .next (lone (b.atR (a.put o.dst v) (.inRegion ops rest :: k)) cs w') := by
  have hfin : (b.atR a (.inRegion ops (i :: rest) :: k)).finish v = b.atR (a.put o.dst v) (.inRegion ops rest :: k) := by rw [Frame.finish_atR, ho]; rfl
  refine step_lone_go ?_
  rw [stepGR_op ho hw, Oper.semAt_eq _ _ _ hnd, ← hfin]; simp [stepG.apply, hr]
theorem step_skipped (ho : ops[i]? = some o) (hw : Region.wanted o (yielded ops a.tmps) = true) (hnd : ∀ c, o.op ≠ .defer c) (hr : (execOp a.eval o).run P w = .ok .skip w') :
    Go.step P (lone (b.atR a (.inRegion ops (i :: rest) :: k)) cs w) = .next (lone (b.atR (a.put o.dst undef) (.inRegion ops rest :: k)) cs w') := by
  have hfin : (b.atR a (.inRegion ops (i :: rest) :: k)).finish undef = b.atR (a.put o.dst undef) (.inRegion ops rest :: k) := by rw [Frame.finish_atR, ho]; rfl
  refine step_lone_go ?_
  rw [stepGR_op ho hw, Oper.semAt_eq _ _ _ hnd, ← hfin]; simp [stepG.apply, hr]
theorem step_unwanted (ho : ops[i]? = some o) (hw : Region.wanted o (yielded ops a.tmps) = false) :
    Go.step P (lone (b.atR a (.inRegion ops (i :: rest) :: k)) cs w) = .next (lone (b.atR (a.put o.dst undef) (.inRegion ops rest :: k)) cs w) := by
  have := stepR_op_skip (P := P) (b := b) (a := a) (k := k) (cs := cs) (w := w) (ops := ops) (i := i) (rest := rest) (by simp [ho, hw])
  rw [this, ho]; rfl
theorem step_enters {f : FuncId} {args : Array Value} (ho : ops[i]? = some o) (hw : Region.wanted o (yielded ops a.tmps) = true) (hnd : ∀ c, o.op ≠ .defer c) (hr : (execOp a.eval o).run P w = .ok (.enter f args) w') :
    Go.step P (lone (b.atR a (.inRegion ops (i :: rest) :: k)) cs w) = .next (lone (Frame.enter P f args .normal) (b.atR a (.inRegion ops (i :: rest) :: k) :: cs) w') := by
  refine step_lone_go ?_
  rw [stepGR_op ho hw, Oper.semAt_eq _ _ _ hnd]; simp [stepG.apply, hr, Frame.atR]
theorem step_rounds {l : Nat} {f : FuncId} {tmps : Array Value} {assign body : Code} (ho : ops[i]? = some o) (hw : Region.wanted o (yielded ops a.tmps) = true) (hnd : ∀ c, o.op ≠ .defer c) (hr : (execOp a.eval o).run P w = .ok (.round l f tmps assign body) w') :
    Go.step P (lone (b.atR a (.inRegion ops (i :: rest) :: k)) cs w) = .next (lone (Frame.round l f tmps assign body .normal) (b.atR a (.inRegion ops (i :: rest) :: k) :: cs) w') := by
  refine step_lone_go ?_
  rw [stepGR_op ho hw, Oper.semAt_eq _ _ _ hnd]; simp [stepG.apply, hr, Frame.atR]
end steps

theorem evalFn (a : Act) : (∀ c, a.eval (.const c) = c) ∧ ∀ f, a.eval (.func f) = .func (.func f) #[] #[] := ⟨fun _ => rfl, fun _ => rfl⟩

theorem compQ_nd {o : Oper} {k : QK} {xs : List Operand} (hc : compQ P o.op = some (k, xs)) : ∀ c, o.op ≠ .defer c := by
  intro c e; rw [e] at hc; cases hc
theorem compS_nd {o : Oper} {k : SK} {xs : List Operand} (hc : compS P o.op = some (k, xs)) : ∀ c, o.op ≠ .defer c := by
  intro c e; rw [e] at hc; cases hc

/-- a quiet operation, in whatever order -/
theorem q_step (R : Rel P ft B w0 ρ h nx w) {trk : Nat} {tm : T AV} {Δ : List (Option Nat)} {env : List AV} {a : Act} {ops : Array Oper} {i : Nat} {o : Oper} (ho : ops[i]? = some o) {q : DQ} (hq : regQ P trk ops Δ o = some q)
    (hx : ∀ k xs, compQ P o.op = some (k, xs) → ∀ x ∈ xs, XOk P ρ trk tm Δ env a x) (hg : ∀ j w t, o.guard = some (j, w) → (ops[j]?).bind (·.dst) = some t → XOk P ρ trk tm Δ env a (.tmp t)) {v : AV} (hv : evalQ tm env h q = some v)
    (b : Frame) (rest : List Nat) (k : List Item) (cs : List Frame) :
    ∃ u, VRel ρ v u ∧ Go.step P (lone (b.atR a (.inRegion ops (i :: rest) :: k)) cs w) = .next (lone (b.atR (a.put o.dst u) (.inRegion ops rest :: k)) cs w) := by
  unfold regQ at hq
  split at hq
  · rename_i qk xs hc
    split at hq
    · rename_i ds g hds hg0
      cases hq
      unfold evalQ at hv
      simp only at hv
      split at hv
      · rename_i bb hb
        have hwant := guard_ok hg0 hg hb
        split at hv
        · split at hv
          · rename_i vs hvs
            have hrel := mapXs_ok (hx _ _ hc) hds hvs
            obtain ⟨u, h1, h2⟩ := qop_ok R (evalFn a).1 (evalFn a).2 hc hrel hv
            exact ⟨u, h2, step_value ho hwant (compQ_nd hc) h1⟩
          · cases hv
        · cases hv
          exact ⟨undef, rfl, step_unwanted ho hwant⟩
      · cases hv
    · cases hq
  · cases hq
end Go.Md
end
section
/- FRAMES ON BOTH SIDES. No condition. -/
namespace Go.Md
variable {P : Program} {ft : FT} {B : Nat} {w0 w w' : World} {ρ ρ' : Rho} {h h' : T AO} {nx nx' : Nat}

def CodeOk (P : Program) (ft : FT) : Prop := ∀ f df, ft.get f = some df → ∃ fn, P.funcs[f]? = some fn ∧ regFn P fn df = some df

def RndRel (ρ : Rho) : Option Nat → Option Nat → Prop
  | none, none => True
  | some l, some b => ∃ g, ρ l = some g ∧ g.b = b
  | _, _ => False
def DfRel (ρ : Rho) : List Nat → List Deferred → Prop
  | [], [] => True
  | d :: ds, x :: xs => (∃ g, ρ d = some g ∧ x = { target := .collected g.b, args := #[] }) ∧ DfRel ρ ds xs
  | _, _ => False
def TmAll (ρ : Rho) (trk : Nat) (tm : T AV) (tmps : Array Value) : Prop := ∀ t v, trk.testBit t = true → tm.get t = some v → VRel ρ v (tmps.getD t undef)
theorem TmAll.mono {trk : Nat} {tm : T AV} {tmps : Array Value} (hr : ρ.le ρ') (H : TmAll ρ trk tm tmps) : TmAll ρ' trk tm tmps := fun t v ht hv => (H t v ht hv).mono hr
theorem RndRel.mono (hr : ρ.le ρ') : ∀ {x y : Option Nat}, RndRel ρ x y → RndRel ρ' x y
  | none, none, _ => trivial
  | some _, some _, ⟨g, h1, h2⟩ => ⟨g, hr _ _ h1, h2⟩
theorem DfRel.mono (hr : ρ.le ρ') : ∀ {x : List Nat} {y : List Deferred}, DfRel ρ x y → DfRel ρ' x y
  | [], [], _ => trivial
  | _ :: _, _ :: _, ⟨⟨g, h1, h2⟩, h3⟩ => ⟨⟨g, hr _ _ h1, h2⟩, DfRel.mono hr h3⟩

/-- from the j-th on -/
def upFrom (ops : Array Oper) (j : Nat) : List Nat := List.range' j (ops.size - j)
theorem upFrom_zero (ops : Array Oper) : upFrom ops 0 = List.range ops.size := by simp [upFrom, List.range_eq_range']
theorem upFrom_lt {ops : Array Oper} {j : Nat} (h : j < ops.size) : upFrom ops j = j :: upFrom ops (j + 1) := by
  unfold upFrom
  rw [show ops.size - j = (ops.size - (j + 1)) + 1 from by omega, List.range'_succ]
theorem upFrom_ge {ops : Array Oper} {j : Nat} (h : ops.size ≤ j) : upFrom ops j = [] := by
  unfold upFrom
  rw [show ops.size - j = 0 from by omega]; rfl

inductive IRel (P : Program) (ρ : Rho) (n trk : Nat) : AI → Item → Prop
  | c {dc c} : regCode P n trk c dc = some dc → IRel P ρ n trk (.c dc) (.code c)
  | blk {id} : IRel P ρ n trk (.blk id) (.inBlock id)
  | lp {dc c} : regCode P n trk c dc = some dc → IRel P ρ n trk (.lp dc) (.inLoop c)
  | scp {dc c} : regCode P n trk c dc = some dc → IRel P ρ n trk (.scp dc) (.inScope c)
  | ops {l ops j} : regSegs P n trk ops l (ops.toList.drop j) = some l → IRel P ρ n trk (.ops l) (.inRegion ops (upFrom ops j))
  | endrf {l g} : ρ l = some g → IRel P ρ n trk (.endrf l) (.endRangeFunc g.b)
  | br : IRel P ρ n trk .br .beginRound
theorem IRel.mono {n trk : Nat} (hr : ρ.le ρ') {i : AI} {x : Item} (H : IRel P ρ n trk i x) : IRel P ρ' n trk i x := by
  cases H with
  | c h => exact .c h
  | blk => exact .blk
  | lp h => exact .lp h
  | scp h => exact .scp h
  | ops h => exact .ops h
  | endrf h => exact .endrf (hr _ _ h)
  | br => exact .br

inductive TRel (P : Program) (ρ : Rho) (n trk : Nat) : List AI → List Item → Prop
  | nil : TRel P ρ n trk [] []
  | cons {i x k k'} : IRel P ρ n trk i x → TRel P ρ n trk k k' → TRel P ρ n trk (i :: k) (x :: k')
  | pad {k k' ops} : TRel P ρ n trk k k' → TRel P ρ n trk k (.inRegion ops [] :: k')
theorem TRel.mono {n trk : Nat} (hr : ρ.le ρ') {k : List AI} {k' : List Item} (H : TRel P ρ n trk k k') : TRel P ρ' n trk k k' := by
  induction H with
  | nil => exact .nil
  | cons h _ ih => exact .cons (h.mono hr) ih
  | pad _ ih => exact .pad ih

structure FB (ρ : Rho) (a : AF) (b : Frame) (act : Act) : Prop where
  fn : b.fn = a.fn
  kind : b.kind = .normal
  rnd : RndRel ρ a.rnd b.roundOf
  dfs : DfRel ρ a.dfs act.defers
theorem FB.mono {a : AF} {b : Frame} {act : Act} (hr : ρ.le ρ') (H : FB ρ a b act) : FB ρ' a b act := ⟨H.fn, H.kind, H.rnd.mono hr, H.dfs.mono hr⟩

/-- running, not in a region that draws -/
structure FP (P : Program) (ft : FT) (ρ : Rho) (a : AF) (b : Frame) (act : Act) (todo : List Item) (df : DF) : Prop where
  fb : FB ρ a b act
  hdf : ft.get a.fn = some df
  size : df.n ≤ act.tmps.size
  tm : TmAll ρ df.trk a.tm act.tmps
  todo : TRel P ρ df.n df.trk a.todo todo
theorem FP.mono {a : AF} {b : Frame} {act : Act} {todo : List Item} {df : DF} (hr : ρ.le ρ') (H : FP P ft ρ a b act todo df) : FP P ft ρ' a b act todo df := ⟨H.fb.mono hr, H.hdf, H.size, H.tm.mono hr, H.todo.mono hr⟩

/-- leading pads are stepped over -/
theorem pads {n trk : Nat} {k : List AI} {k' : List Item} (H : TRel P ρ n trk k k') : ∃ k2, TRel P ρ n trk k k2 ∧ (k = [] → k2 = []) ∧ (∀ i k1, k = i :: k1 → ∃ x k3, k2 = x :: k3 ∧ IRel P ρ n trk i x ∧ TRel P ρ n trk k1 k3) ∧
    ∀ (b : Frame) (a : Act) (cs : List Frame) (w : World), Steps P (lone (b.atR a k') cs w) (lone (b.atR a k2) cs w) := by
  induction H with
  | nil => exact ⟨[], .nil, fun _ => rfl, fun i k1 h => (by cases h), fun _ _ _ _ => Steps.refl _ _⟩
  | cons h1 h2 _ => exact ⟨_, .cons h1 h2, fun h => (by cases h), fun i k1 h => (by cases h; exact ⟨_, _, rfl, h1, h2⟩), fun _ _ _ _ => Steps.refl _ _⟩
  | pad _ ih =>
    obtain ⟨k2, h1, h2, h3, h4⟩ := ih
    exact ⟨k2, h1, h2, h3, fun b a cs w => .head stepR_region_end (h4 b a cs w)⟩

/-! jumps -/
theorem exitTo_rel {n trk id : Nat} {k : List AI} {k' : List Item} (H : TRel P ρ n trk k k') : (∀ r, exitTo id k = some r → ∃ r', Go.exitTo id k' = some r' ∧ TRel P ρ n trk r r') ∧ (exitTo id k = none → Go.exitTo id k' = none) := by
  induction H with
  | nil => exact ⟨fun r h => (by cases h), fun _ => rfl⟩
  | pad _ ih => exact ih
  | cons h1 h2 ih =>
    cases h1 with
    | blk =>
      rename_i id'
      simp only [exitTo, Go.exitTo]
      by_cases e : id' = id
      · subst e
        simp only [Nat.beq_refl, beq_self_eq_true, if_true]
        exact ⟨fun r h => (by cases h; exact ⟨_, rfl, h2⟩), fun h => (by cases h)⟩
      · have e1 : Nat.beq id' id = false := by
          cases hb : Nat.beq id' id with
          | false => rfl
          | true => exact absurd (eq_of_beq' hb) e
        have e2 : (id' == id) = false := by simpa using e
        simp only [e1, e2]
        exact ih
    | _ => exact ih
theorem noLabel_find (l : Nat) : ∀ {c : Code}, noLabel c = true → Go.findLabel c l = none := by
  intro c h
  induction c with
  | seq a b iha ihb =>
    simp only [noLabel, Bool.and_eq_true] at h
    simp [Go.findLabel, iha h.1, ihb h.2]
  | label l' => simp [noLabel] at h
  | _ => rfl
theorem findLabel_rel {n trk l : Nat} : ∀ {dc : DC} {c : Code}, regCode P n trk c dc = some dc → (∀ r, findLabel l dc = some r → ∃ r', Go.findLabel c l = some r' ∧ regCode P n trk r' r = some r) ∧ (findLabel l dc = none → Go.findLabel c l = none) := by
  intro dc
  induction dc with
  | seq a b iha ihb =>
    intro c h
    cases c <;> simp only [regCode] at h <;> try (cases h; done)
    rename_i a' b'
    split at h
    · rename_i x y hx hy
      simp only [Option.some.injEq, DC.seq.injEq] at h
      obtain ⟨rfl, rfl⟩ := h
      obtain ⟨a1, a2⟩ := iha hx
      obtain ⟨b1, b2⟩ := ihb hy
      simp only [findLabel, Go.findLabel]
      cases hf : findLabel l x with
      | some r1 =>
        obtain ⟨r', h2, h3⟩ := a1 r1 hf
        rw [h2]
        refine ⟨fun r hr => ?_, fun hr => by cases hr⟩
        cases hr
        exact ⟨.seq r' b', rfl, by simp [regCode, h3, hy]⟩
      | none =>
        rw [a2 hf]
        exact ⟨b1, b2⟩
    · cases h
  | label l' =>
    intro c h
    cases c <;> simp only [regCode] at h <;> try (cases h; done)
    rename_i l2
    simp only [Option.some.injEq, DC.label.injEq] at h
    subst h
    simp only [findLabel, Go.findLabel]
    by_cases e : l2 = l
    · subst e
      simp only [Nat.beq_refl, beq_self_eq_true, if_true]
      exact ⟨fun r hr => (by cases hr; exact ⟨.skip, rfl, rfl⟩), fun hr => by cases hr⟩
    · have e1 : Nat.beq l2 l = false := by
        cases hb : Nat.beq l2 l with
        | false => rfl
        | true => exact absurd (eq_of_beq' hb) e
      have e2 : (l2 == l) = false := by simpa using e
      simp only [e1, e2]
      exact ⟨fun r hr => (by cases hr), fun _ => rfl⟩
  | bad =>
    intro c h
    have hn : noLabel c = true := by
      cases hb : noLabel c with
      | true => rfl
      | false => cases c <;> simp [regCode, hb] at h
    exact ⟨fun r hr => (by cases hr), fun _ => noLabel_find l hn⟩
  | _ =>
    intro c h
    refine ⟨fun r hr => (by cases hr), fun _ => ?_⟩
    cases c <;> first | rfl | (simp [regCode] at h; done)
theorem gotoIn_rel {n trk l : Nat} {k : List AI} {k' : List Item} (H : TRel P ρ n trk k k') : (∀ r, gotoIn l k = some r → ∃ r', Go.gotoIn l k' = some r' ∧ TRel P ρ n trk r r') ∧ (gotoIn l k = none → Go.gotoIn l k' = none) := by
  induction H with
  | nil => exact ⟨fun r h => (by cases h), fun _ => rfl⟩
  | pad _ ih => exact ih
  | cons h1 h2 ih =>
    cases h1 with
    | scp hc =>
      rename_i dc c
      obtain ⟨f1, f2⟩ := findLabel_rel (l := l) hc
      simp only [gotoIn, Go.gotoIn]
      cases hf : findLabel l dc with
      | some r =>
        obtain ⟨r', h3, h4⟩ := f1 r hf
        rw [h3]
        exact ⟨fun r2 hr => (by cases hr; exact ⟨_, rfl, .cons (.c h4) (.cons (.scp hc) h2)⟩), fun hr => by cases hr⟩
      | none =>
        rw [f2 hf]
        exact ih
    | _ => exact ih
end Go.Md
end
