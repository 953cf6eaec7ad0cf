import Derived.Laws.Tables
import Derived.Laws.BytesString
import Derived.Test.YtgpdolhclinjdaaGreatDoorM3
set_option linter.unusedVariables false
set_option linter.unusedSimpArgs false
set_option linter.unusedSectionVars false
section
/- THE QUIET OPERATIONS, one by one: equality, numbers, texts, structs. No condition. -/
namespace Go.Md
variable {P : Program} {ft : FT} {B : Nat} {w0 w : World} {ρ : Rho} {h : T AO} {nx : Nat}

/-! equality -/
theorem equal_eq (t : TypeId) (x y : Value) : Op.equal t x y = Op.equalIn (9999 + 1) t x y := rfl

theorem flatEqL_spec : ∀ (s : List KS) (l m : List AV) (r : Bool), flatEqL s l m = some r → True := fun _ _ _ _ _ => trivial

theorem bEq_beq (x y : Bool) : AV.beq (.bool x) (.bool y) = bEq x y := by cases x <;> cases y <;> rfl

theorem flatEqL_fields (d : Nat) : ∀ (fs : List Field) (n : Nat) (s : List KS), flatFields P n fs = some s → ∀ (x y : List AV) (r : Bool), flatEqL s x y = some r → ∀ (a b : List Value),
    VRelL ρ x a → VRelL ρ y b → ∀ (A B : Array Value), (∀ i v, a[i]? = some v → A[n + i]? = some v) → (∀ i v, b[i]? = some v → B[n + i]? = some v) →
    (Op.eqFields (d + 1) A B fs).run P w = .ok r w
  | [], n, s, hf, x, y, r, hr, a, b, ra, rb, A, Bv, hA, hB => by
    cases hf
    cases x <;> cases y <;> simp [flatEqL] at hr
    subst hr; rfl
  | f :: fs, n, s, hf, x, y, r, hr, a, b, ra, rb, A, Bv, hA, hB => by
    simp only [flatFields] at hf
    split at hf
    · rename_i hc
      split at hf
      · rename_i k l' hk hl
        cases hf
        simp only [Bool.and_eq_true, beq_iff_eq, bne_iff_ne] at hc
        obtain ⟨ho, hn⟩ := hc
        have key : ∀ (x0 y0 : AV) (x1 y1 : List AV) (q : Bool), x = x0 :: x1 → y = y0 :: y1 → ksOk k x0 = true → ksOk k y0 = true → AV.beq x0 y0 = q →
            (q = true → flatEqL l' x1 y1 = some r) → (q = false → r = false) → (Op.eqFields (d + 1) A Bv (f :: fs)).run P w = .ok r w := by
          intro x0 y0 x1 y1 q ex ey ox oy eq h1 h2
          subst ex; subst ey
          obtain ⟨u, a', rfl, hu, ra'⟩ := ra
          obtain ⟨v, b', rfl, hv, rb'⟩ := rb
          have hA0 : A[f.offset]? = some u := by rw [ho]; exact hA 0 u rfl
          have hB0 : Bv[f.offset]? = some v := by rw [ho]; exact hB 0 v rfl
          have e := equalIn_cell (P := P) (w := w) hk hu hv ox oy d
          simp only [Op.eqFields, ne_eq, hn, not_false_eq_true, if_true, Sem.run_bind, run_part_cell hk hA0, run_part_cell hk hB0, Result.andThen_ok, e, eq]
          cases q with
          | true =>
            have ih := flatEqL_fields d fs (n + 1) l' hl x1 y1 r (h1 rfl) a' b' ra' rb' A Bv (fun i w hw => by rw [Nat.add_right_comm, Nat.add_assoc]; exact hA (i + 1) w (by simpa using hw)) (fun i w hw => by rw [Nat.add_right_comm, Nat.add_assoc]; exact hB (i + 1) w (by simpa using hw))
            simpa using ih
          | false => simp [h2 rfl]
        unfold flatEqL at hr
        split at hr
        · rename_i h0; cases h0
        · rename_i x0 x1 y0 y1 hs
          cases hs
          refine key _ _ _ _ (bEq x0 y0) rfl rfl rfl rfl (bEq_beq _ _) (fun e => ?_) (fun e => ?_)
          · simpa [e] using hr
          · rw [e] at hr; simp at hr; exact hr
        · rename_i k0 s0 k1 x0 x1 k2 y0 y1 hs
          cases hs
          split at hr
          · rename_i e1
            split at hr
            · rename_i e2
              have e1' := (kEq_iff _ _).1 e1
              have e2' := (kEq_iff _ _).1 e2
              subst e1'; subst e2'
              refine key _ _ _ _ (iEq x0 y0) rfl rfl e1 e2 ?_ (fun e => ?_) (fun e => ?_)
              · simp only [AV.beq, brec_and, e1, Bool.true_and]
              · simpa [e] using hr
              · rw [e] at hr; simp at hr; exact hr
            · cases hr
          · cases hr
        · rename_i s0 a0 n0 x1 b0 m0 y1 hs
          cases hs
          refine key _ _ _ _ (sEq a0 n0 b0 m0) rfl rfl rfl rfl ?_ (fun e => ?_) (fun e => ?_)
          · simp only [AV.beq, brec_and]; unfold sEq; cases Nat.beq a0 b0 <;> rfl
          · simpa [e] using hr
          · rw [e] at hr; simp at hr; exact hr
        · cases hr
      · cases hf
    · cases hf

theorem eqGuard_other (op : BinOp) (t : TypeId) (X Y : Operand) (u v : Value) (h1 : ¬ (u = .nilIface ∧ v = .nilIface)) (h2 : ∀ a b, ¬ (u = .agg a ∧ v = .agg b)) : (eqGuard op t X Y u v).run P w = .ok () w := by
  cases u <;> cases v <;> first | (exact absurd ⟨rfl, rfl⟩ h1) | (exact absurd ⟨rfl, rfl⟩ (h2 _ _)) | (cases op <;> rfl)
theorem eqGuard_nils (op : BinOp) (t : TypeId) (X Y : Operand) (hc : (isConst X || isConst Y) = true) : (eqGuard op t X Y .nilIface .nilIface).run P w = .ok () w := by
  cases X <;> cases Y <;> first | (cases op <;> rfl) | (simp [isConst] at hc; done)

/-- the run of '==' and '!=' out of the run of 'equal' -/
theorem eqv_run {op : BinOp} (hop : isCmp op = true) {t : TypeId} {X Y : Operand} {u v : Value} {r : Bool} (hg : (eqGuard op t X Y u v).run P w = .ok () w)
    (hi : ∀ k a k' b, ¬ (u = .int k a ∧ v = .int k' b)) (hs : ∀ a b, ¬ (u = .string a ∧ v = .string b)) (hf : ∀ k a, u ≠ .float k a) (hcx : ∀ k a b, u ≠ .complex k a b)
    (he : (Op.equal t u v).run P w = .ok r w) :
    ((do eqGuard op t X Y u v; binOp op t u v) : Sem Value).run P w = .ok (.bool (if op == .neq then !r else r)) w := by
  have key : (binOp op t u v).run P w = .ok (.bool (if op == .neq then !r else r)) w := by
    cases op <;> simp [isCmp] at hop
    · have e : binOp .eql t u v = (do pure (.bool (← Op.equal t u v))) := by
        cases u <;> cases v <;> first | rfl | (exact absurd ⟨rfl, rfl⟩ (hi _ _ _ _)) | (exact absurd ⟨rfl, rfl⟩ (hs _ _)) | (exact absurd rfl (hf _ _)) | (exact absurd rfl (hcx _ _ _))
      rw [e]; simp [he]
    · have e : binOp .neq t u v = (do pure (.bool (!(← Op.equal t u v)))) := by
        cases u <;> cases v <;> first | rfl | (exact absurd ⟨rfl, rfl⟩ (hi _ _ _ _)) | (exact absurd ⟨rfl, rfl⟩ (hs _ _)) | (exact absurd rfl (hf _ _)) | (exact absurd rfl (hcx _ _ _))
      rw [e]; simp [he]
  simp [hg, key]

section
variable (d : Nat) {t : TypeId}
theorem eqIn_p1 {e : TypeId} (hu : P.underlying t = some (.pointer e)) (b : Option Addr) : (Op.equalIn (d + 1) t (.pointer none) (.pointer b)).run P w = .ok b.isNone w := by simp [Op.equalIn, run_und hu]
theorem eqIn_p2 {e : TypeId} (hu : P.underlying t = some (.pointer e)) (a : Addr) : (Op.equalIn (d + 1) t (.pointer (some a)) (.pointer none)).run P w = .ok false w := by simp [Op.equalIn, run_und hu]
theorem eqIn_s1 {e : TypeId} (hu : P.underlying t = some (.slice e)) (b : Option Addr) (n c : Nat) : (Op.equalIn (d + 1) t (.slice none 0 0) (.slice b n c)).run P w = .ok b.isNone w := by simp [Op.equalIn, run_und hu]
theorem eqIn_s2 {e : TypeId} (hu : P.underlying t = some (.slice e)) (a : Addr) (n c : Nat) : (Op.equalIn (d + 1) t (.slice (some a) n c) (.slice none 0 0)).run P w = .ok false w := by simp [Op.equalIn, run_und hu]
theorem eqIn_m1 {k e : TypeId} (hu : P.underlying t = some (.map k e)) (b : Option Nat) : (Op.equalIn (d + 1) t (.map none) (.map b)).run P w = .ok b.isNone w := by simp [Op.equalIn, run_und hu]
theorem eqIn_m2 {k e : TypeId} (hu : P.underlying t = some (.map k e)) (a : Nat) : (Op.equalIn (d + 1) t (.map (some a)) (.map none)).run P w = .ok false w := by simp [Op.equalIn, run_und hu]
theorem eqIn_f1 {ps rs : Array TypeId} {vd : Bool} (hu : P.underlying t = some (.func ps rs vd)) : (Op.equalIn (d + 1) t .nilFunc .nilFunc).run P w = .ok true w := by simp [Op.equalIn, run_und hu]
theorem eqIn_f2 {ps rs : Array TypeId} {vd : Bool} (hu : P.underlying t = some (.func ps rs vd)) (f : Fn) (a b : Array Value) : (Op.equalIn (d + 1) t .nilFunc (.func f a b)).run P w = .ok false w := by simp [Op.equalIn, run_und hu]
theorem eqIn_f3 {ps rs : Array TypeId} {vd : Bool} (hu : P.underlying t = some (.func ps rs vd)) (f : Fn) (a b : Array Value) : (Op.equalIn (d + 1) t (.func f a b) .nilFunc).run P w = .ok false w := by simp [Op.equalIn, run_und hu]
theorem eqIn_i1 {ms : Array (String × TypeId)} (hu : P.underlying t = some (.interface ms)) : (Op.equalIn (d + 1) t .nilIface .nilIface).run P w = .ok true w := by simp [Op.equalIn, run_und hu]
theorem eqIn_i2 {ms : Array (String × TypeId)} (hu : P.underlying t = some (.interface ms)) (u : TypeId) (v : Value) : (Op.equalIn (d + 1) t .nilIface (.iface u v)).run P w = .ok false w := by simp [Op.equalIn, run_und hu]
theorem eqIn_i3 {ms : Array (String × TypeId)} (hu : P.underlying t = some (.interface ms)) (u : TypeId) (v : Value) : (Op.equalIn (d + 1) t (.iface u v) .nilIface).run P w = .ok false w := by simp [Op.equalIn, run_und hu]
end

set_option maxHeartbeats 1000000 in
theorem eqv_ok {op : BinOp} (hop : isCmp op = true) {t : TypeId} {X Y : Operand} {k : EK} (hk : eqKind P t (isConst X || isConst Y) = some k) {a b : AV} {r : Bool} (hr : eqAny k a b = some r) {u v : Value}
    (ha : VRel ρ a u) (hb : VRel ρ b v) : ((do eqGuard op t X Y u v; binOp op t u v) : Sem Value).run P w = .ok (.bool (if op == .neq then !r else r)) w := by
  unfold eqKind at hk
  split at hk
  · rename_i hu
    cases hk
    cases a <;> cases b <;> first | (simp [eqAny, flatEq] at hr; done) | skip
    simp only [eqAny, flatEq, Option.some.injEq] at hr
    subst hr; cases ha; cases hb
    refine eqv_run hop (eqGuard_other _ _ _ _ _ _ (by simp) (by simp)) (by simp) (by simp) (by simp) (by simp) ?_
    rw [equal_eq, run_equalIn_bool' w 9999 t _ _ hu, bEq_eq]
  · rename_i hu
    cases hk
    cases a <;> cases b <;> first | (simp [eqAny, flatEq] at hr; done) | skip
    all_goals
      simp only [eqAny, flatEq, Option.some.injEq] at hr
      subst hr
      simp only [VRel] at ha hb
      first | subst ha | (obtain ⟨_, _, rfl⟩ := ha) | (obtain ⟨_, rfl, _⟩ := ha) | (obtain ⟨_, _, _, rfl, _⟩ := ha) | (obtain ⟨_, _, rfl, _⟩ := ha)
      first | subst hb | (obtain ⟨_, _, rfl⟩ := hb) | (obtain ⟨_, rfl, _⟩ := hb) | (obtain ⟨_, _, _, rfl, _⟩ := hb) | (obtain ⟨_, _, rfl, _⟩ := hb)
      refine eqv_run hop (eqGuard_other _ _ _ _ _ _ (by simp) (by simp)) (by simp) (by simp) (by simp) (by simp) ?_
      rw [equal_eq]; first | exact eqIn_p1 _ hu _ | exact eqIn_p2 _ hu _ | exact eqIn_s1 _ hu _ _ _ | exact eqIn_s2 _ hu _ _ _ | exact eqIn_m1 _ hu _ | exact eqIn_m2 _ hu _ | exact eqIn_f1 _ hu | exact eqIn_f2 _ hu _ _ _ | exact eqIn_f3 _ hu _ _ _
  · rename_i hu
    cases hk
    cases a <;> cases b <;> first | (simp [eqAny, flatEq] at hr; done) | skip
    all_goals
      simp only [eqAny, flatEq, Option.some.injEq] at hr
      subst hr
      simp only [VRel] at ha hb
      first | subst ha | (obtain ⟨_, _, rfl⟩ := ha) | (obtain ⟨_, rfl, _⟩ := ha) | (obtain ⟨_, _, _, rfl, _⟩ := ha) | (obtain ⟨_, _, rfl, _⟩ := ha)
      first | subst hb | (obtain ⟨_, _, rfl⟩ := hb) | (obtain ⟨_, rfl, _⟩ := hb) | (obtain ⟨_, _, _, rfl, _⟩ := hb) | (obtain ⟨_, _, rfl, _⟩ := hb)
      refine eqv_run hop (eqGuard_other _ _ _ _ _ _ (by simp) (by simp)) (by simp) (by simp) (by simp) (by simp) ?_
      rw [equal_eq]; first | exact eqIn_p1 _ hu _ | exact eqIn_p2 _ hu _ | exact eqIn_s1 _ hu _ _ _ | exact eqIn_s2 _ hu _ _ _ | exact eqIn_m1 _ hu _ | exact eqIn_m2 _ hu _ | exact eqIn_f1 _ hu | exact eqIn_f2 _ hu _ _ _ | exact eqIn_f3 _ hu _ _ _
  · rename_i hu
    cases hk
    cases a <;> cases b <;> first | (simp [eqAny, flatEq] at hr; done) | skip
    all_goals
      simp only [eqAny, flatEq, Option.some.injEq] at hr
      subst hr
      simp only [VRel] at ha hb
      first | subst ha | (obtain ⟨_, _, rfl⟩ := ha) | (obtain ⟨_, rfl, _⟩ := ha) | (obtain ⟨_, _, _, rfl, _⟩ := ha) | (obtain ⟨_, _, rfl, _⟩ := ha)
      first | subst hb | (obtain ⟨_, _, rfl⟩ := hb) | (obtain ⟨_, rfl, _⟩ := hb) | (obtain ⟨_, _, _, rfl, _⟩ := hb) | (obtain ⟨_, _, rfl, _⟩ := hb)
      refine eqv_run hop (eqGuard_other _ _ _ _ _ _ (by simp) (by simp)) (by simp) (by simp) (by simp) (by simp) ?_
      rw [equal_eq]; first | exact eqIn_p1 _ hu _ | exact eqIn_p2 _ hu _ | exact eqIn_s1 _ hu _ _ _ | exact eqIn_s2 _ hu _ _ _ | exact eqIn_m1 _ hu _ | exact eqIn_m2 _ hu _ | exact eqIn_f1 _ hu | exact eqIn_f2 _ hu _ _ _ | exact eqIn_f3 _ hu _ _ _
  · rename_i hu
    cases hk
    cases a <;> cases b <;> first | (simp [eqAny, flatEq] at hr; done) | skip
    all_goals
      simp only [eqAny, flatEq, Option.some.injEq] at hr
      subst hr
      simp only [VRel] at ha hb
      first | subst ha | (obtain ⟨_, _, rfl⟩ := ha) | (obtain ⟨_, rfl, _⟩ := ha) | (obtain ⟨_, _, _, rfl, _⟩ := ha) | (obtain ⟨_, _, rfl, _⟩ := ha)
      first | subst hb | (obtain ⟨_, _, rfl⟩ := hb) | (obtain ⟨_, rfl, _⟩ := hb) | (obtain ⟨_, _, _, rfl, _⟩ := hb) | (obtain ⟨_, _, rfl, _⟩ := hb)
      refine eqv_run hop (eqGuard_other _ _ _ _ _ _ (by simp) (by simp)) (by simp) (by simp) (by simp) (by simp) ?_
      rw [equal_eq]; first | exact eqIn_p1 _ hu _ | exact eqIn_p2 _ hu _ | exact eqIn_s1 _ hu _ _ _ | exact eqIn_s2 _ hu _ _ _ | exact eqIn_m1 _ hu _ | exact eqIn_m2 _ hu _ | exact eqIn_f1 _ hu | exact eqIn_f2 _ hu _ _ _ | exact eqIn_f3 _ hu _ _ _
  · rename_i ms hu
    by_cases hcc : (isConst X || isConst Y) = true
    · rw [if_pos hcc] at hk
      cases hk
      cases a <;> cases b <;> first | (simp [eqAny, flatEq] at hr; done) | skip
      all_goals
        simp only [eqAny, flatEq, Option.some.injEq] at hr
        subst hr
        simp only [VRel] at ha hb
        first | subst ha | (obtain ⟨_, rfl, _⟩ := ha)
        first | subst hb | (obtain ⟨_, rfl, _⟩ := hb)
        refine eqv_run hop (by first | exact eqGuard_nils _ _ _ _ hcc | exact eqGuard_other _ _ _ _ _ _ (by simp) (by simp)) (by simp) (by simp) (by simp) (by simp) ?_
        rw [equal_eq]; first | exact eqIn_i1 _ hu | exact eqIn_i2 _ hu _ _ | exact eqIn_i3 _ hu _ _
    · rw [if_neg hcc] at hk
      cases hk
      cases a <;> cases b <;> first | (simp [eqAny, flatEq] at hr; done) | skip
      all_goals
        simp only [eqAny, flatEq, Option.some.injEq] at hr
        subst hr
        simp only [VRel] at ha hb
        first | subst ha | (obtain ⟨_, rfl, _⟩ := ha)
        first | subst hb | (obtain ⟨_, rfl, _⟩ := hb)
        refine eqv_run hop (eqGuard_other _ _ _ _ _ _ (by simp) (by simp)) (by simp) (by simp) (by simp) (by simp) ?_
        rw [equal_eq]; first | exact eqIn_i1 _ hu | exact eqIn_i2 _ hu _ _ | exact eqIn_i3 _ hu _ _
  · rename_i fs hu
    cases hf : flatStruct P t with
    | none => simp [hf] at hk
    | some s =>
      simp [hf] at hk
      subst hk
      cases a <;> cases b <;> first | (simp [eqAny] at hr; done) | skip
      rename_i l m
      simp only [eqAny] at hr
      obtain ⟨x, rfl, rx⟩ := ha
      obtain ⟨y, rfl, ry⟩ := hb
      obtain ⟨fs, hu, hst, hgt, hl⟩ := flatStruct_spec hf
      refine eqv_run hop (run_eqGuard_agg w op t X Y _ _ hgt) (by simp) (by simp) (by simp) (by simp) ?_
      have hfo : P.fieldsOf t = fs := by simp [Program.fieldsOf, hu]
      rw [equal_eq, run_equalIn_struct w 9999 t _ _ (by rw [hfo]; exact hu) hst, hfo]
      exact flatEqL_fields 9998 fs.toList 0 s hl l m r hr x y rx ry _ _ (fun i v hv => by simpa using hv) (fun i v hv => by simpa using hv)
  · cases hk

end Go.Md
end
section
/- THE QUIET OPERATIONS, one by one: numbers, texts, structs, slices. No condition. -/
namespace Go.Md
variable {P : Program} {ft : FT} {B : Nat} {w0 w : World} {ρ : Rho} {h : T AO} {nx : Nat}

theorem un_ok {op : UnOp} {vs : List AV} {v : AV} (hq : qUn op vs h = some v) {us : List Value} (hv : VRelL ρ vs us) : ∃ x u, us = [x] ∧ (Op.unary op x).run P w = .ok u w ∧ VRel ρ v u := by
  unfold qUn at hq
  split at hq
  · obtain ⟨x, rfl, hx⟩ := VRelL.one hv
    cases hx
    split at hq
    · cases hq; exact ⟨_, _, rfl, rfl, rfl⟩
    · cases hq
  · rename_i k n
    obtain ⟨x, rfl, hx⟩ := VRelL.one hv
    cases hx
    split at hq
    · cases hq
      refine ⟨_, .int k (k.wrap (0 - n)), rfl, by simp [Op.unary, Op.intArith], ?_⟩
      simp only [VRel, fwrap_eq]; rfl
    · split at hq
      · rename_i n hs
        split at hq
        · rename_i hlt
          cases hq
          have h2 := lt_of_blt hlt
          have h1 : kTop k - 1 < kTop k := by have := kTop_pos k; omega
          have hmax : k.max = Int.ofNat (kTop k - 1) := by cases k <;> simp [IntKind.signed] at hs <;> rfl
          refine ⟨_, .int k _, rfl, by simp only [Op.unary, Op.intBits, hs]; rfl, ?_⟩
          show Value.int k _ = Value.int k _
          congr 1
          simp only [Bool.false_eq_true, if_false, hmax]
          exact bits_back h1 h2 Nat.xor (· ^^^ ·) (fun x y => BitVec.toNat_xor x y) (fun m h1 h2 => Nat.xor_lt_two_pow h1 h2)
        · cases hq
      · cases hq
    · cases hq
  · cases hq

theorem conv_ok {k : IntKind} {vs : List AV} {v : AV} (hq : qConv k vs h = some v) {us : List Value} (hv : VRelL ρ vs us) {s d : TypeId} {sk : IntKind} (hs : P.underlying s = some (.int sk)) (hd : P.underlying d = some (.int k)) :
    ∃ x u, us = [x] ∧ (convert s d x).run P w = .ok u w ∧ VRel ρ v u := by
  unfold qConv at hq
  split at hq
  · rename_i k1 n1
    obtain ⟨x, rfl, hx⟩ := VRelL.one hv
    cases hx; cases hq
    refine ⟨_, .int k (k.wrap n1), rfl, ?_, by simp only [VRel, fwrap_eq]⟩
    simp [convert, run_und hs, run_und hd, Conv.intToInt]
  · cases hq

theorem foldl_push : ∀ (l : List UInt8) (s : ByteArray), (l.map fun b => (Int.ofNat b.toNat)).foldl (fun r n => r.push (UInt8.ofNat n.toNat)) s = ⟨(s.data.toList ++ l).toArray⟩
  | [], s => by simp
  | b :: l, s => by
    simp only [List.map_cons, List.foldl_cons]
    rw [foldl_push l]
    congr 2
    simp [ByteArray.push]

theorem b2s_ok (R : Rel P ft B w0 ρ h nx w) {vs : List AV} {v : AV} (hq : qB2s vs h = some v) {us : List Value} (hv : VRelL ρ vs us) {s d e : TypeId} (hs : P.underlying s = some (.slice e)) (hd : P.underlying d = some .string) (he : isU8 P e = true) :
    ∃ x u, us = [x] ∧ (convert s d x).run P w = .ok u w ∧ VRel ρ v u := by
  have hue : P.underlying e = some (.int .u8) := by
    unfold isU8 at he
    split at he <;> first | assumption | cases he
  have hconv : ∀ a n c, (convert s d (.slice a n c)).run P w = (Conv.bytesToString (.slice a n c)).run P w := by
    intro a n c; simp [convert, run_und hs, run_und hd, run_und hue]
  unfold qB2s at hq
  split at hq
  · obtain ⟨x, rfl, hx⟩ := VRelL.one hv
    cases hx; cases hq
    exact ⟨_, .string .empty, rfl, by rw [hconv]; rfl, by simp [VRel, unpackN]; rfl⟩
  · obtain ⟨x, rfl, hx⟩ := VRelL.one hv
    obtain ⟨a, c, rfl⟩ := hx
    cases hq
    refine ⟨_, .string .empty, rfl, ?_, by simp [VRel, unpackN]; rfl⟩
    rw [hconv, run_bytesToString w a 0 c [] (by simp [Go.loadCells, loadCellsFrom])]
    rfl
  · rename_i id off len cap
    obtain ⟨x, rfl, hx⟩ := VRelL.one hv
    obtain ⟨g, c, hρ, rfl, _, _⟩ := hx
    split at hq
    · rename_i bits m _ hg
      split at hq
      · rename_i hle
        cases hq
        obtain ⟨arr, el, fz, hb, _, _, _, _, hc⟩ := R.bytes hg hρ
        have hle' : off + len ≤ m := le_of_ble hle
        refine ⟨_, .string ⟨(unpackN (subB bits off len) len).toArray⟩, rfl, ?_, subB_lt _ _ _, rfl⟩
        rw [hconv, run_bytesToString w _ len c ((unpackN (subB bits off len) len).map fun b => Int.ofNat b.toNat), foldl_push]
        · simp [ByteArray.empty, ByteArray.emptyWithCapacity]; rfl
        · have hcells : ∀ j u, (((unpackN (subB bits off len) len).map fun b => Int.ofNat b.toNat).map (Value.int .u8))[j]? = some u → w.cell? ⟨g.b, (g.d + off) + j, none⟩ = some u := by
            intro j u hu
            rw [List.getElem?_map, List.getElem?_map, unpackN_get] at hu
            split at hu
            · rename_i hj
              simp only [Option.map_some, Option.some.injEq] at hu
              subst hu
              rw [cell_of hb, show g.d + off + j = g.d + (off + j) from by omega, hc (off + j) (by omega), byt_subB _ _ _ _ hj]
              have := byt_lt bits (off + j)
              simp [Nat.mod_eq_of_lt this]
            · simp at hu
          have := run_loadCells_at (P := P) hcells
          simpa [unpackN_length] using this
      · cases hq
    · cases hq
  · cases hq

/-! structs -/
theorem setAll_get (off : Nat) : ∀ (cs : List Value) (k : Nat) (A : Array Value), off + k + cs.length ≤ A.size → ∀ i : Nat,
    ((cs.zipIdx k).foldl (fun A (p : Value × Nat) => A.setIfInBounds (off + p.2) p.1) A)[i]? = if i < off + k then A[i]? else if i < off + k + cs.length then cs[i - (off + k)]? else A[i]?
  | [], k, A, h, i => by simp; intro _ _; omega
  | c :: cs, k, A, h, i => by
    simp only [List.length_cons] at h
    simp only [List.zipIdx_cons, List.foldl_cons]
    rw [setAll_get off cs (k + 1) _ (by simp; omega) i]
    by_cases h1 : i < off + k
    · rw [if_pos (by omega), if_pos h1, Array.getElem?_setIfInBounds_ne (by omega)]
    · by_cases h2 : i = off + k
      · subst h2
        rw [if_pos (by omega), if_neg (by omega), if_pos (by simp), Array.getElem?_setIfInBounds_self_of_lt (by omega)]
        simp
      · rw [if_neg (by omega), if_neg h1]
        by_cases h3 : i < off + k + cs.length + 1
        · rw [if_pos (by omega), if_pos (by simp; omega), show i - (off + k) = (i - (off + (k + 1))) + 1 from by omega]
          simp
        · rw [if_neg (by omega), if_neg (by simp; omega), Array.getElem?_setIfInBounds_ne (by omega)]
theorem setAll (off : Nat) (cs : List Value) (A : Array Value) (h : off + cs.length ≤ A.size) :
    ((cs.zipIdx 0).foldl (fun A (p : Value × Nat) => A.setIfInBounds (off + p.2) p.1) A).toList = A.toList.take off ++ cs ++ A.toList.drop (off + cs.length) := by
  apply List.ext_getElem?
  intro i
  rw [Array.getElem?_toList, setAll_get off cs 0 A (by omega) i]
  have hA : A.toList.length = A.size := Array.length_toList
  simp only [Nat.add_zero]
  by_cases h1 : i < off
  · rw [if_pos h1, List.append_assoc, List.getElem?_append_left (by rw [List.length_take]; omega), List.getElem?_take, if_pos h1, Array.getElem?_toList]
  · rw [if_neg h1]
    by_cases h2 : i < off + cs.length
    · rw [if_pos h2, List.append_assoc, List.getElem?_append_right (by rw [List.length_take]; omega), List.getElem?_append_left (by rw [List.length_take]; omega), List.length_take]
      congr 1; omega
    · rw [if_neg h2, List.getElem?_append_right (by simp [List.length_take]; omega), List.getElem?_drop, Array.getElem?_toList]
      congr 1; simp [List.length_take]; omega

theorem fill_ok (place : Nat → Option (Nat × Nat)) : ∀ (ps : List (Nat × Nat)) (vs : List AV) (z l : List AV), fillParts z ps vs = some l → ∀ (Z : Array Value) (us : List Value) (ix : List Nat),
    VRelL ρ z Z.toList → VRelL ρ vs us → ix.length = us.length → (∀ (j i : Nat) (p : Nat × Nat), ix[j]? = some i → ps[j]? = some p → place i = some p) →
    ∃ L, Instr.fill place Z (ix.zip us) = some L ∧ VRelL ρ l L.toList
  | [], [], z, l, h, Z, us, ix, hz, hv, hl, hp => by
    cases h; cases hv
    have : ix = [] := by cases ix <;> simp at hl; rfl
    subst this
    exact ⟨Z, rfl, hz⟩
  | [], _ :: _, z, l, h, _, _, _, _, _, _, _ => by simp [fillParts] at h
  | _ :: _, [], z, l, h, _, _, _, _, _, _, _ => by simp [fillParts] at h
  | (off, n) :: ps, v :: vs, z, l, h, Z, us, ix, hz, hv, hl, hp => by
    obtain ⟨u, us', rfl, hu, hv'⟩ := hv
    cases ix with
    | nil => simp at hl
    | cons i ix =>
      simp only [fillParts] at h
      split at h
      · rename_i hn
        split at h
        · rename_i hle
          have hn' := eq_of_beq' hn
          have hle' : off + n ≤ z.length := le_of_ble hle
          have hp0 := hp 0 i (off, n) rfl rfl
          have hc := hu.cells
          have hcl := hc.length
          have hcl' : u.cells.size = n := by rw [← hn', ← hcl]; simp
          have hzl := hz.length
          have hzl' : Z.size = z.length := by rw [← hzl]; simp
          have hset : ((u.cells.zipIdx.foldl (fun cs (c, j) => cs.setIfInBounds (off + j) c) Z)).toList = Z.toList.take off ++ u.cells.toList ++ Z.toList.drop (off + n) := by
            have := setAll off u.cells.toList Z (by simp; omega)
            rw [← Array.foldl_toList, Array.toList_zipIdx]
            simpa [hcl'] using this
          obtain ⟨L, h1, h2⟩ := fill_ok place ps vs _ l h (u.cells.zipIdx.foldl (fun cs (c, j) => cs.setIfInBounds (off + j) c) Z) us' ix
            (by rw [hset]; exact VRelL.append (VRelL.append (hz.take off) hc) (hz.drop (Nat.add off n))) hv' (by simpa using hl) (fun j i p hi hpp => hp (j + 1) i p (by simpa using hi) (by simpa using hpp))
          refine ⟨L, ?_, h2⟩
          simp only [List.zip_cons_cons, Instr.fill, hp0]
          rw [if_neg (by simp [hcl']; omega)]
          exact h1
        · cases h
      · cases h

theorem build_ok {z : List AV} {ps : List (Nat × Nat)} {vs : List AV} {v : AV} (hq : qBuild z ps vs h = some v) {us : List Value} (hv : VRelL ρ vs us) {t : TypeId} (hz : zeroOf P t = some (.agg z))
    (parts : List (Nat × Operand)) (ev : Operand → Value) (hus : us = (parts.map (·.2)).map ev)
    (hp : (∃ fs, P.underlying t = some (.struct fs) ∧ (fs.toList.all fun f => (szOf P f.type).isSome) = true ∧ compBuild P fs.toList parts = some ps) ∨ (∃ n e k, P.underlying t = some (.array n e) ∧ szOf P e = some k ∧ ps = compArr k parts)) :
    ∃ u, (Instr.build t (parts.toArray.map fun (i, x) => (i, ev x))).run P w = .ok u w ∧ VRel ρ v u := by
  unfold qBuild at hq
  split at hq
  · rename_i l hl
    cases hq
    obtain ⟨Z, hzr, hzv, it, hit, hzz⟩ := zeroOf_rel (P := P) (w := w) (ρ := ρ) hz
    obtain ⟨za, rfl, hza⟩ := hzv
    have hzip : (parts.toArray.map fun (i, x) => (i, ev x)).toList = (parts.map (·.1)).zip us := by
      subst hus
      simp only [Array.toList_map]
      clear hp hv
      induction parts with
      | nil => rfl
      | cons p parts ih => simp [List.zip_cons_cons] at ih ⊢; exact ih
    rcases hp with ⟨fs, hu, hall, hcb⟩ | ⟨n, e, k, hu, hk, rfl⟩
    · have hpl : ∃ places, fs.toList.mapM (fun f => (P.info? f.type).map fun i => (f.offset, i.size)) = some places ∧ ∀ (i : Nat) (f : Field), fs.toList[i]? = some f → ∀ s, szOf P f.type = some s → places[i]? = some (f.offset, s) := by
        clear hcb hu
        generalize fs.toList = F at hall
        induction F with
        | nil => exact ⟨[], rfl, fun i f hf => by simp at hf⟩
        | cons f F ih =>
          simp only [List.all_cons, Bool.and_eq_true] at hall
          obtain ⟨places, h1, h2⟩ := ih hall.2
          cases hs : szOf P f.type with
          | none => simp [hs] at hall
          | some s =>
            obtain ⟨i0, hi0, hi1⟩ := szOf_some hs
            refine ⟨(f.offset, s) :: places, by simp [List.mapM_cons, hi0, hi1, h1], fun i f' hf s' hs' => ?_⟩
            cases i with
            | zero => simp at hf; subst hf; rw [hs] at hs'; cases hs'; rfl
            | succ i => simpa using h2 i f' (by simpa using hf) s' hs'
      obtain ⟨places, hm, hplace⟩ := hpl
      have hps : ∀ (j : Nat) (i : Nat) (p : Nat × Nat), (parts.map (·.1))[j]? = some i → ps[j]? = some p → places.toArray[i]? = some p := by
        clear hzip hus hl hv
        induction parts generalizing ps with
        | nil => intro j i p hi; simp at hi
        | cons q parts ih =>
          intro j i p hi hpj
          obtain ⟨qi, qx⟩ := q
          simp only [compBuild] at hcb
          split at hcb
          · rename_i f ps' hf hps'
            cases hs : szOf P f.type with
            | none => simp [hs] at hcb
            | some s =>
              simp [hs] at hcb
              subst hcb
              cases j with
              | zero => simp at hi hpj; subst hi; subst hpj; simpa using hplace qi f hf s hs
              | succ j => exact ih hps' j i p (by simpa using hi) (by simpa using hpj)
          · cases hcb
      obtain ⟨L, hL1, hL2⟩ := fill_ok (ρ := ρ) (places.toArray[·]?) ps vs z l hl za.toArray us (parts.map (·.1)) (by simpa using hza) hv (by subst hus; simp) hps
      refine ⟨.agg L, run_build w t _ L ?_, L.toList, by simp, hL2⟩
      simp only [Program.built, hit, hu, hzz, hm]
      rw [hzip]
      simpa [Value.cells] using hL1
    · obtain ⟨ie, hie, hik⟩ := szOf_some hk
      have hps : ∀ (j : Nat) (i : Nat) (p : Nat × Nat), (parts.map (·.1))[j]? = some i → (compArr k parts)[j]? = some p → (fun i => some (i * k, k)) i = some p := by
        clear hzip hus hl hv
        induction parts with
        | nil => intro j i p hi; simp at hi
        | cons q parts ih =>
          intro j i p hi hpj
          obtain ⟨qi, qx⟩ := q
          cases j with
          | zero => simp [compArr] at hi hpj; subst hi; exact congrArg some hpj
          | succ j => exact ih j i p (by simpa using hi) (by simpa [compArr] using hpj)
      obtain ⟨L, hL1, hL2⟩ := fill_ok (ρ := ρ) (fun i => some (i * k, k)) (compArr k parts) vs z l hl za.toArray us (parts.map (·.1)) (by simpa using hza) hv (by subst hus; simp) hps
      refine ⟨.agg L, run_build w t _ L ?_, L.toList, by simp, hL2⟩
      simp only [Program.built, hit, hu, hzz, hie, hik]
      rw [hzip]
      simpa [Value.cells] using hL1
  · cases hq

end Go.Md
end
section
/- THE QUIET OPERATIONS, one by one: slices, maps, the rest. No condition. -/
namespace Go.Md
variable {P : Program} {ft : FT} {B : Nat} {w0 w : World} {ρ : Rho} {h : T AO} {nx : Nat}

theorem nat?_some {v : AV} {n : Nat} (h : nat? v = some n) : ∃ k, v = .int k (.ofNat n) := by
  unfold nat? at h
  split at h
  · cases h; exact ⟨_, rfl⟩
  · cases h

/-- a bound of a slice expression, or what stands for it -/
def bnd (v : Option Value) (d y : Nat) (c : Go.BoundsCode) : Sem Nat := match v with
  | some x => Instr.sliceBound x y c
  | none => pure d
/-- a bound of a slice expression -/
theorem bound_ok {v : Option AV} {u : Option Value} (hv : (match v, u with | none, none => True | some x, some y => VRel ρ x y | _, _ => False)) {dflt y n : Nat} (hb : bound? v dflt y = some n) (code : Go.BoundsCode) :
    (bnd u dflt y code).run P w = .ok n w := by
  unfold bnd
  unfold bound? at hb
  cases v with
  | none => cases u <;> simp at hv; cases hb; rfl
  | some x =>
    cases u with
    | none => simp at hv
    | some u =>
      simp only at hb hv
      split at hb
      · rename_i m hm
        split at hb
        · rename_i hle
          cases hb
          obtain ⟨k, rfl⟩ := nat?_some hm
          cases hv
          have := le_of_ble hle
          simp only [Instr.sliceBound, asIntOf, Sem.run_bind, Sem.run_pure, Result.andThen_ok]
          rw [if_pos ⟨by simp, by simpa using this⟩]
          simp
        · cases hb
      · cases hb

def ORelO (ρ : Rho) : Option AV → Option Value → Prop
  | none, none => True
  | some x, some y => VRel ρ x y
  | _, _ => False

/-- the operands of a slice expression, as they lie one behind the other -/
theorem optHd_ok {b : Option Operand} {ev : Operand → Value} {vs : List AV} {rest : List Operand} (hv : VRelL ρ vs ((b.toList ++ rest).map ev)) :
    ORelO ρ (optHd b.isSome vs).1 (b.map ev) ∧ VRelL ρ (optHd b.isSome vs).2 (rest.map ev) := by
  cases b with
  | none =>
    simp only [Option.toList_none, List.nil_append] at hv
    simp only [Option.isSome_none]
    cases vs <;> exact ⟨trivial, hv⟩
  | some x =>
    simp only [Option.toList_some, List.cons_append, List.nil_append, List.map_cons] at hv
    cases vs with
    | nil => cases hv
    | cons v r =>
      obtain ⟨y, s, e, h1, h2⟩ := hv
      cases e
      exact ⟨h1, h2⟩

theorem bound_ok' {v : Option AV} {u : Option Value} (hv : ORelO ρ v u) {dflt y n : Nat} (hb : bound? v dflt y = some n) (code : Go.BoundsCode) :
    (bnd u dflt y code).run P w = .ok n w := bound_ok (ρ := ρ) (by cases v <;> cases u <;> exact hv) hb code

theorem bound_le {v : Option AV} {dflt y n : Nat} (h : bound? v dflt y = some n) (hd : dflt ≤ y) : n ≤ y := by
  unfold bound? at h
  split at h
  · cases h; exact hd
  · split at h
    · split at h
      · rename_i hle; cases h; exact le_of_ble hle
      · cases h
    · cases h

theorem run_bounds {isS : Bool} {len cap : Nat} {lo hi mx : Option Value} {l hh m : Nat}
    (hm : ∀ c, (bnd mx cap cap c).run P w = .ok m w) (hh' : ∀ c, (bnd hi len m c).run P w = .ok hh w) (hlo : ∀ c, (bnd lo 0 hh c).run P w = .ok l w) (hno : mx.isSome = true → hi.isSome = true) :
    (Instr.sliceBounds isS len cap lo hi mx).run P w = .ok (l, hh, m) w := by
  unfold Instr.sliceBounds
  unfold bnd at hm hh' hlo
  cases mx with
  | none =>
    have e0 := hm .index
    simp only [Sem.run_pure] at e0
    cases e0
    cases hi with
    | none =>
      have e1 := hh' .index
      simp only [Sem.run_pure] at e1; cases e1
      cases lo with
      | none => have e2 := hlo .index; simp only [Sem.run_pure] at e2; cases e2; simp
      | some v => simp only at hlo; simp [hlo]
    | some hv =>
      simp only at hh'
      cases lo with
      | none => have e2 := hlo .index; simp only [Sem.run_pure] at e2; cases e2; simp [hh']
      | some v => simp only at hlo; simp [hh', hlo]
  | some mv =>
    simp only at hm
    cases hi with
    | none => exact absurd (hno rfl) (by simp)
    | some hv =>
      simp only at hh'
      cases lo with
      | none => have e2 := hlo .index; simp only [Sem.run_pure] at e2; cases e2; simp [hm, hh']
      | some v => simp only at hlo; simp [hm, hh', hlo]

theorem subLe {a b c : Nat} (h : a - b ≤ c) : Nat.sub a b ≤ c := h
theorem add_addr (b o n : Nat) : (⟨b, o, none⟩ : Addr).add n = ⟨b, o + n, none⟩ := by
  unfold Addr.add
  split
  · rename_i h; subst h; rfl
  · rfl

/-- a cut of a slice -/
theorem slc3_ok {esz : Nat} {x v : AV} {lo hi mx : Option AV} (hq : slc3 esz x lo hi mx = some v) {u : Value} (hx : VRel ρ x u) {ul uh um : Option Value} (hl : ORelO ρ lo ul) (hh : ORelO ρ hi uh) (hm : ORelO ρ mx um)
    (hno : um.isSome = true → uh.isSome = true) {t e : TypeId} (ht : P.underlying t = some (.slice e)) (he : szOf P e = some esz) :
    (∀ (id off len : Nat), x = .sl id off len none → ∀ g, ρ id = some g → g.e = esz) →
    ∃ r, (Instr.slice t u ul uh um).run P w = .ok r w ∧ VRel ρ v r := by
  intro hge
  have hrun : ∀ (a : Option Addr) (len cap l h' m : Nat), (Instr.sliceBounds true len cap ul uh um).run P w = .ok (l, h', m) w →
      (Instr.slice t (.slice a len cap) ul uh um).run P w = .ok (.slice (if m = l then a else a.map (·.add (l * esz))) (h' - l) (m - l)) w := by
    intro a len cap l h' m hb
    simp [Instr.slice, run_und ht, hb, run_size he]
  unfold slc3 at hq
  split at hq
  · -- nil
    cases hx
    split at hq
    · rename_i m hbm
      split at hq
      · rename_i h' hbh
        split at hq
        · rename_i l hbl
          cases hq
          have m0 : m = 0 := Nat.le_zero.1 (bound_le hbm (Nat.le_refl _))
          have h0 : h' = 0 := Nat.le_zero.1 (bound_le hbh (Nat.le_refl _))
          have l0 : l = 0 := Nat.le_zero.1 (bound_le hbl (Nat.le_refl _))
          subst m0; subst h0; subst l0
          refine ⟨_, hrun none 0 0 0 0 0 (run_bounds (fun c => bound_ok' hm hbm c) (fun c => bound_ok' hh hbh c) (fun c => bound_ok' hl hbl c) hno), ?_⟩
          simp [VRel]
        · cases hq
      · cases hq
    · cases hq
  · -- known capacity
    rename_i id off len c
    obtain ⟨g, c', hρ, rfl, hlen, hc⟩ := hx
    simp only at hc; subst hc
    split at hq
    · rename_i m hbm
      split at hq
      · rename_i h' hbh
        split at hq
        · rename_i l hbl
          cases hq
          have hmle := bound_le hbm (Nat.le_refl _)
          have hle : l ≤ h' := bound_le hbl (Nat.zero_le _)
          have hhm : h' ≤ m ∨ len ≤ h' := by
            unfold bound? at hbh
            split at hbh
            · cases hbh; exact .inr (Nat.le_refl _)
            · split at hbh
              · split at hbh
                · rename_i hx; cases hbh; exact .inl (le_of_ble hx)
                · cases hbh
              · cases hbh
          have hh2 : h' ≤ m := by
            cases mx with
            | none =>
              cases hbm
              exact bound_le hbh hlen
            | some mv =>
              cases um with
              | none => cases hm
              | some umv =>
                cases uh with
                | none => exact absurd (hno rfl) (by simp)
                | some uhv =>
                  cases hi with
                  | none => cases hh
                  | some hv =>
                    unfold bound? at hbh
                    simp only at hbh
                    split at hbh
                    · split at hbh
                      · rename_i hx; cases hbh; exact le_of_ble hx
                      · cases hbh
                    · cases hbh
          refine ⟨_, hrun _ len _ l h' m (run_bounds (fun c => bound_ok' hm hbm c) (fun c => bound_ok' hh hbh c) (fun c => bound_ok' hl hbl c) hno), ?_⟩
          unfold cutAt
          cases hml : Nat.beq m l with
          | true =>
            have := eq_of_beq' hml
            subst this
            rw [if_pos rfl]
            exact ⟨g, _, hρ, rfl, subLe (by omega), rfl⟩
          | false =>
            have := ne_of_beq' hml
            rw [if_neg this]
            refine ⟨g, m - l, hρ, ?_, subLe (by omega), rfl⟩
            simp only [Option.map_some, add_addr]
            rw [Nat.add_assoc]; rfl
        · cases hq
      · cases hq
    · cases hq
  · -- unknown capacity
    rename_i id off len
    obtain ⟨g, c, hρ, rfl, hlen, hc⟩ := hx
    simp only at hc
    cases mx with
    | some mv =>
      simp only at hq
      cases um with
      | none => cases hm
      | some umv =>
      cases uh with
      | none => exact absurd (hno rfl) (by simp)
      | some uhv =>
      cases hi with
      | none => cases hh
      | some hv =>
      split at hq
      · rename_i m hbm
        split at hq
        · rename_i h' hbh
          split at hq
          · rename_i l hbl
            cases hq
            have hmle : m ≤ len := bound_le hbm (Nat.zero_le _)
            have hle : l ≤ h' := bound_le hbl (Nat.zero_le _)
            have hh2 : h' ≤ m := by
              unfold bound? at hbh
              simp only at hbh
              split at hbh
              · split at hbh
                · rename_i hx; cases hbh; exact le_of_ble hx
                · cases hbh
              · cases hbh
            have hbm' : bound? (some mv) 0 c = some m := by
              unfold bound? at hbm ⊢
              simp only at hbm ⊢
              split at hbm
              · split at hbm
                · rename_i n hx hx2; cases hbm; have := le_of_ble hx2; rw [ble_t (by omega)]
                · cases hbm
              · cases hbm
            have hbm2 : bound? (some mv) c c = some m := by simpa [bound?] using hbm'
            refine ⟨_, hrun _ len c l h' m (run_bounds (fun c => bound_ok' hm hbm2 c) (fun c => bound_ok' hh hbh c) (fun c => bound_ok' hl hbl c) hno), ?_⟩
            unfold cutAt
            cases hml : Nat.beq m l with
            | true =>
              have := eq_of_beq' hml
              subst this
              rw [if_pos rfl]
              exact ⟨g, _, hρ, rfl, subLe (by omega), rfl⟩
            | false =>
              have := ne_of_beq' hml
              rw [if_neg this]
              refine ⟨g, m - l, hρ, ?_, subLe (by omega), rfl⟩
              simp only [Option.map_some, add_addr]
              rw [Nat.add_assoc]; rfl
          · cases hq
        · cases hq
      · cases hq
    | none =>
      simp only at hq
      cases um with
      | some _ => cases hm
      | none =>
      split at hq
      · rename_i h' hbh
        split at hq
        · rename_i l hbl
          have hh2 : h' ≤ len := bound_le hbh (Nat.le_refl _)
          have hle : l ≤ h' := bound_le hbl (Nat.zero_le _)
          have hbh' : bound? hi len c = some h' := by
            unfold bound? at hbh ⊢
            split at hbh
            · exact hbh
            · split at hbh
              · split at hbh
                · rename_i hx2; cases hbh; have := le_of_ble hx2; rw [ble_t (by omega)]
                · cases hbh
              · cases hbh
          have hr := hrun (some ⟨g.b, g.d + off, none⟩) len c l h' c (run_bounds (fun c => rfl) (fun c => bound_ok' hh hbh' c) (fun c => bound_ok' hl hbl c) (by simp))
          split at hq
          · rename_i hlt
            cases hq
            have hl2 := lt_of_blt hlt
            have hee := hge id off len rfl g hρ
            refine ⟨_, hr, ?_⟩
            rw [if_neg (by omega)]
            refine ⟨g, c - l, hρ, ?_, subLe (by omega), ?_⟩
            · simp only [Option.map_some, add_addr]
              rw [Nat.add_assoc]; rfl
            · simp only
              show g.d + (off + l * esz) + (c - l) * g.e ≤ g.sz
              rw [hee] at hc ⊢
              have : c * esz = l * esz + (c - l) * esz := by rw [← Nat.add_mul]; congr 1; omega
              omega
          · split at hq
            · rename_i hl0
              cases hq
              have := eq_of_beq' hl0
              subst this
              refine ⟨_, hr, ?_⟩
              refine ⟨g, c - 0, hρ, ?_, subLe (by omega), by simpa using hc⟩
              split <;> simp [add_addr]
            · cases hq
              refine ⟨_, hr, ?_⟩
              have hl2 : h' - l = 0 := by
                have : ¬ l < len := fun e => by simp [blt_t e] at *
                omega
              rw [hl2]
              split <;> exact ⟨_, _, rfl⟩
        · cases hq
      · cases hq
  · cases hq

end Go.Md
end
