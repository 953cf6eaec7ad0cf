import Derived.Laws.StructEq
import Derived.Laws.Tables
import Derived.Laws.BytesString
import Derived.Test.YtnkneinchiknmaaGreatDoorM3
set_option linter.unusedVariables false
set_option linter.unusedSimpArgs false
set_option linter.unusedSectionVars false
section
/- THE QUIET OPERATIONS, the first half: arithmetic, comparisons, conversions. No condition. -/
namespace Go.Md
variable {P : Program} {ft : FT} {B : Nat} {w0 w : World} {ρ : Rho} {h : T AO} {nx : Nat}

theorem kBits_eq (k : IntKind) : kBits k = k.bits := by cases k <;> rfl
theorem inTop_iff {k : IntKind} {a b : Nat} (h : inTop k a b = true) : a < kTop k ∧ b < kTop k := by
  unfold inTop at h
  split at h
  · rename_i h1; exact ⟨lt_of_blt h1, lt_of_blt h⟩
  · cases h
theorem kTop_le (k : IntKind) : kTop k ≤ 2 ^ k.bits := by cases k <;> simp [kTop, IntKind.bits]
theorem kTop_pow (k : IntKind) : ∃ m, kTop k = 2 ^ m ∧ m ≤ k.bits := by
  cases k
  · exact ⟨7, rfl, by decide⟩
  · exact ⟨15, rfl, by decide⟩
  · exact ⟨31, rfl, by decide⟩
  · exact ⟨63, rfl, by decide⟩
  · exact ⟨8, rfl, by decide⟩
  · exact ⟨16, rfl, by decide⟩
  · exact ⟨32, rfl, by decide⟩
  · exact ⟨64, rfl, by decide⟩

theorem bits_back {k : IntKind} {a b : Nat} (ha : a < kTop k) (hb : b < kTop k) (f : Nat → Nat → Nat) (g : BitVec k.bits → BitVec k.bits → BitVec k.bits)
    (hfg : ∀ x y, (g x y).toNat = f x.toNat y.toNat) (hlt : ∀ m, a < 2 ^ m → b < 2 ^ m → f a b < 2 ^ m) :
    k.wrap (g (BitVec.ofInt k.bits (Int.ofNat a)) (BitVec.ofInt k.bits (Int.ofNat b))).toNat = Int.ofNat (f a b) := by
  have h1 : (BitVec.ofInt k.bits (Int.ofNat a)).toNat = a := by
    rw [BitVec.toNat_ofInt]
    have := Nat.lt_of_lt_of_le ha (kTop_le k)
    have e : (Int.ofNat a : Int) % (2 ^ k.bits : Nat) = a := Int.emod_eq_of_lt (Int.natCast_nonneg a) (Int.ofNat_lt.2 this)
    rw [e]; simp
  have h2 : (BitVec.ofInt k.bits (Int.ofNat b)).toNat = b := by
    rw [BitVec.toNat_ofInt]
    have := Nat.lt_of_lt_of_le hb (kTop_le k)
    have e : (Int.ofNat b : Int) % (2 ^ k.bits : Nat) = b := Int.emod_eq_of_lt (Int.natCast_nonneg b) (Int.ofNat_lt.2 this)
    rw [e]; simp
  rw [hfg, h1, h2]
  obtain ⟨m, hm, _⟩ := kTop_pow k
  refine wrap_small ?_
  rw [hm] at ha hb ⊢
  exact hlt m ha hb

theorem intBin_ok {op : BinOp} {k : IntKind} {x y : Int} {v : AV} (t : TypeId) (hb : intBin op k x y = some v) :
    ∃ u, (binOp op t (.int k x) (.int k y)).run P w = .ok u w ∧ VRel ρ v u := by
  have hk : ¬ (k ≠ k) := fun h => h rfl
  cases op <;> simp only [intBin] at hb
  case add => cases hb; exact ⟨.int k (k.wrap (x + y)), by simp [binOp, Op.intArith], by simp only [VRel, fwrap_eq]; rfl⟩
  case sub => cases hb; exact ⟨.int k (k.wrap (x - y)), by simp [binOp, Op.intArith], by simp only [VRel, fwrap_eq]; rfl⟩
  case mul => cases hb; exact ⟨.int k (k.wrap (x * y)), by simp [binOp, Op.intArith], by simp only [VRel, fwrap_eq]; rfl⟩
  case quo =>
    split at hb
    · cases hb
    · rename_i h0
      cases hb
      have hy : ¬ y = 0 := fun e => by rw [(iEq_iff y 0).2 e] at h0; cases h0
      exact ⟨.int k (k.wrap (x.tdiv y)), by simp [binOp, Op.intDiv, hy], by simp only [VRel, fwrap_eq]⟩
  case rem =>
    split at hb
    · cases hb
    · rename_i h0
      cases hb
      have hy : ¬ y = 0 := fun e => by rw [(iEq_iff y 0).2 e] at h0; cases h0
      exact ⟨.int k (x.tmod y), by simp [binOp, Op.intDiv, hy], rfl⟩
  case and =>
    split at hb
    · split at hb
      · rename_i a b ht
        cases hb
        obtain ⟨h1, h2⟩ := inTop_iff ht
        refine ⟨_, by simp only [binOp, Op.intBits, if_neg hk]; rfl, ?_⟩
        show Value.int k _ = Value.int k _
        congr 1
        exact bits_back h1 h2 Nat.land (· &&& ·) (fun x y => BitVec.toNat_and x y) (fun m h1 _ => Nat.lt_of_le_of_lt (Nat.and_le_left) h1)
      · cases hb
    · cases hb
  case or =>
    split at hb
    · split at hb
      · rename_i a b ht
        cases hb
        obtain ⟨h1, h2⟩ := inTop_iff ht
        refine ⟨_, by simp only [binOp, Op.intBits, if_neg hk]; rfl, ?_⟩
        show Value.int k _ = Value.int k _
        congr 1
        exact bits_back h1 h2 Nat.lor (· ||| ·) (fun x y => BitVec.toNat_or x y) (fun m h1 h2 => Nat.or_lt_two_pow h1 h2)
      · cases hb
    · cases hb
  case xor =>
    split at hb
    · split at hb
      · rename_i a b ht
        cases hb
        obtain ⟨h1, h2⟩ := inTop_iff ht
        refine ⟨_, by simp only [binOp, Op.intBits, if_neg hk]; rfl, ?_⟩
        show Value.int k _ = Value.int k _
        congr 1
        exact bits_back h1 h2 Nat.xor (· ^^^ ·) (fun x y => BitVec.toNat_xor x y) (fun m h1 h2 => Nat.xor_lt_two_pow h1 h2)
      · cases hb
    · cases hb
  case eql => cases hb; exact ⟨.bool (x == y), by simp [binOp, Op.intCmp], by simp [VRel, iEq_eq]⟩
  case neq => cases hb; exact ⟨.bool (x != y), by simp [binOp, Op.intCmp], by simp [VRel, iEq_eq]; rfl⟩
  case lss => cases hb; exact ⟨.bool (decide (x < y)), by simp [binOp, Op.intCmp], by simp [VRel, iLt_eq]⟩
  case leq => cases hb; exact ⟨.bool (decide (x ≤ y)), by simp [binOp, Op.intCmp], by simp only [VRel, iLt_eq]; congr 1; by_cases h : x ≤ y <;> simp [h] <;> omega⟩
  case gtr => cases hb; exact ⟨.bool (decide (y < x)), by simp [binOp, Op.intCmp], by simp [VRel, iLt_eq]⟩
  case geq => cases hb; exact ⟨.bool (decide (y ≤ x)), by simp [binOp, Op.intCmp], by simp only [VRel, iLt_eq]; congr 1; by_cases h : y ≤ x <;> simp [h] <;> omega⟩
  all_goals cases hb

theorem shiftBin_ok {op : BinOp} {k k' : IntKind} {x y : Int} {v : AV} (t : TypeId) (hb : shiftBin op k x y = some v) :
    ∃ u, (binOp op t (.int k x) (.int k' y)).run P w = .ok u w ∧ VRel ρ v u := by
  unfold shiftBin at hb
  split at hb
  · rename_i a n
    have hn : ¬ ((Int.ofNat n : Int) < 0) := by simp
    split at hb
    · cases hb
      refine ⟨_, by simp only [binOp, Op.shift, if_neg hn]; rfl, ?_⟩
      simp only [VRel, fwrap_eq, kBits_eq]
      congr 2
    · cases hb
      refine ⟨_, by simp only [binOp, Op.shift, if_neg hn]; rfl, ?_⟩
      simp only [VRel, kBits_eq]
      congr 1
      show (Int.ofNat a : Int).fdiv (2 ^ (min (Int.ofNat n).toNat k.bits)) = Int.ofNat (a / 2 ^ (min n k.bits))
      have e : ((2 : Int) ^ (min (Int.ofNat n).toNat k.bits)) = Int.ofNat (2 ^ (min n k.bits)) := by simp
      rw [e, Int.fdiv_eq_ediv_of_nonneg (b := Int.ofNat (2 ^ min n k.bits)) _ (Int.natCast_nonneg _)]
      rfl
    · cases hb
  · cases hb

theorem strEq_eq {a n b m : Nat} (ha : a < 256 ^ n) (hb : b < 256 ^ m) : sEq a n b m = (unpackN a n == unpackN b m) := by
  by_cases h : n = m
  · subst h
    by_cases e : a = b
    · subst e; simp [sEq]
    · have h1 : sEq a n b n = false := by unfold sEq; cases h : Nat.beq a b with
        | true => exact absurd (eq_of_beq' h) e
        | false => rfl
      have h2 : unpackN a n ≠ unpackN b n := fun hh => e (unpackN_inj ha hb hh)
      simp [h1, h2]
  · have h1 : sEq a n b m = false := by
      cases hs : sEq a n b m with
      | false => rfl
      | true => exact absurd (sEq_iff.1 hs).2 h
    have h2 : unpackN a n ≠ unpackN b m := fun hh => h (by have := congrArg List.length hh; simpa [unpackN_length] using this)
    simp [h1, h2]

theorem strBin_ok {op : BinOp} {a n b m : Nat} {v : AV} (t : TypeId) (ha : a < 256 ^ n) (hb' : b < 256 ^ m) (hb : strBin op a n b m = some v) :
    ∃ u, (binOp op t (.string ⟨(unpackN a n).toArray⟩) (.string ⟨(unpackN b m).toArray⟩)).run P w = .ok u w ∧ VRel ρ v u := by
  have e1 : ∀ x y : Nat, strLt (Nat.add x 1) y x = strLt (x + 1) y x := fun _ _ => rfl
  have l1 : strLt (n + 1) a n b m = Op.bytesLess (unpackN a n) (unpackN b m) := unpackN_lt (by omega)
  have l2 : strLt (m + 1) b m a n = Op.bytesLess (unpackN b m) (unpackN a n) := unpackN_lt (by omega)
  have tot : ∀ x y : List UInt8, (!Op.bytesLess y x) = (Op.bytesLess x y || x == y) := by
    intro x
    induction x with
    | nil => intro y; cases y <;> simp [Op.bytesLess]
    | cons c x ih =>
      intro y
      cases y with
      | nil => simp [Op.bytesLess]
      | cons d y =>
        simp only [Op.bytesLess]
        have := ih y
        by_cases h1 : c < d
        · have h2 : ¬ d < c := by rw [UInt8.lt_iff_toNat_lt] at *; omega
          have h3 : ¬ d = c := fun e => by subst e; exact h2 h1
          simp [h1, h2, h3]
        · by_cases h2 : d < c
          · have h3 : ¬ c = d := fun e => by subst e; exact h1 h2
            simp [h1, h2, h3]
          · have h3 : c = d := by
              apply UInt8.toNat_inj.1
              rw [UInt8.lt_iff_toNat_lt] at h1 h2; omega
            subst h3
            simp only [h1, decide_false, Bool.false_or, beq_self_eq_true, Bool.true_and]
            rw [this]
            simp
  cases op <;> simp only [strBin] at hb
  case add =>
    split at hb
    · rename_i hlt
      cases hb
      have hs := lt_of_blt hlt
      have e : Nat.add n m = n + m := rfl
      refine ⟨.string (⟨(unpackN a n).toArray⟩ ++ ⟨(unpackN b m).toArray⟩), ?_, ?_⟩
      · simp only [binOp, Op.stringOp]
        have hsz : ¬ (((ByteArray.mk (unpackN a n).toArray).size + (ByteArray.mk (unpackN b m).toArray).size : Nat) : Int) > IntKind.i64.max := by
          simp [ByteArray.size, unpackN_length, IntKind.max, IntKind.bits, IntKind.signed]
          omega
        rw [if_neg hsz]; rfl
      · refine ⟨catB_lt ha hb', ?_⟩
        rw [e, unpackN_cat ha]
        congr 1
    · cases hb
  case eql => cases hb; exact ⟨_, by simp [binOp, Op.stringOp]; rfl, by simp [VRel, strEq_eq ha hb']⟩
  case neq => cases hb; exact ⟨_, by simp [binOp, Op.stringOp]; rfl, by simp [VRel, strEq_eq ha hb']⟩
  case lss => cases hb; exact ⟨_, by simp [binOp, Op.stringOp]; rfl, by show _ = Value.bool _; rw [show strLt (Nat.add n 1) a n b m = _ from l1]⟩
  case gtr =>
    cases hb
    refine ⟨.bool (!(Op.bytesLess (unpackN a n) (unpackN b m) || unpackN a n == unpackN b m)), by simp [binOp, Op.stringOp], ?_⟩
    show _ = Value.bool _
    rw [show strLt (Nat.add m 1) b m a n = _ from l2, ← tot]; simp
  case leq => cases hb; exact ⟨_, by simp [binOp, Op.stringOp]; rfl, by show _ = Value.bool _; rw [show strLt (Nat.add m 1) b m a n = _ from l2]; congr 1; exact (tot _ _).symm⟩
  case geq => cases hb; exact ⟨_, by simp [binOp, Op.stringOp]; rfl, by show _ = Value.bool _; rw [show strLt (Nat.add n 1) a n b m = _ from l1]⟩
  all_goals cases hb

theorem eqGuard_int (op : BinOp) (t : TypeId) (x y : Operand) (k k' : IntKind) (a b : Int) : (eqGuard op t x y (.int k a) (.int k' b)).run P w = .ok () w := by
  simp only [eqGuard]
  split <;> rfl
theorem eqGuard_str (op : BinOp) (t : TypeId) (x y : Operand) (a b : ByteArray) : (eqGuard op t x y (.string a) (.string b)).run P w = .ok () w := by
  simp only [eqGuard]
  split <;> rfl

theorem bin_ok {op : BinOp} {x y v : AV} {u t : Value} (ty : TypeId) (hb : bin op x y = some v) (hx : VRel ρ x u) (hy : VRel ρ y t) (X Y : Operand) :
    ∃ r, ((do eqGuard op ty X Y u t; binOp op ty u t) : Sem Value).run P w = .ok r w ∧ VRel ρ v r := by
  unfold bin at hb
  split at hb
  · rename_i k x k' y
    cases hx; cases hy
    have key : ∀ r, (binOp op ty (.int k x) (.int k' y)).run P w = .ok r w → ((do eqGuard op ty X Y (.int k x) (.int k' y); binOp op ty (.int k x) (.int k' y)) : Sem Value).run P w = .ok r w := by
      intro r hr; simp [eqGuard_int, hr]
    split at hb
    · obtain ⟨r, h1, h2⟩ := shiftBin_ok (P := P) (w := w) (ρ := ρ) (k' := k') ty hb; exact ⟨r, key r h1, h2⟩
    · obtain ⟨r, h1, h2⟩ := shiftBin_ok (P := P) (w := w) (ρ := ρ) (k' := k') ty hb; exact ⟨r, key r h1, h2⟩
    · split at hb
      · rename_i hk
        have := (kEq_iff k k').1 hk
        subst this
        obtain ⟨r, h1, h2⟩ := intBin_ok (P := P) (w := w) (ρ := ρ) ty hb; exact ⟨r, key r h1, h2⟩
      · cases hb
  · rename_i a n b m
    obtain ⟨ha, rfl⟩ := hx
    obtain ⟨hb', rfl⟩ := hy
    obtain ⟨r, h1, h2⟩ := strBin_ok (P := P) (w := w) (ρ := ρ) ty ha hb' hb
    exact ⟨r, by simp [eqGuard_str, h1], h2⟩
  · cases hb
end Go.Md
end
section
/- THE QUIET OPERATIONS, the second half: equality, conversions, structs, memory, slices, maps. No condition. -/
namespace Go.Md
variable {P : Program} {ft : FT} {B : Nat} {w0 w : World} {ρ : Rho} {h : T AO} {nx : Nat}

/-! shapes -/
theorem ksOk_int {k : IntKind} {v : AV} (h : ksOk (.int k) v = true) : ∃ n, v = .int k n := by
  cases v <;> simp [ksOk] at h
  rename_i k' n
  exact ⟨n, by rw [(kEq_iff k k').1 h]⟩
theorem ksOk_str {v : AV} (h : ksOk .str v = true) : ∃ b n, v = .str b n := by
  cases v <;> simp [ksOk] at h
  exact ⟨_, _, rfl⟩
theorem ksOk_bool {v : AV} (h : ksOk .bool v = true) : ∃ b, v = .bool b := by
  cases v <;> simp [ksOk] at h
  exact ⟨_, rfl⟩
theorem ksT_und {t : TypeId} {k : KS} (hk : ksT P t = some k) : szOf P t = some 1 ∧ (match k with
    | .int i => P.underlying t = some (.int i)
    | .str => P.underlying t = some .string
    | .bool => P.underlying t = some .bool) := by
  unfold ksT at hk
  split at hk
  · rename_i hs
    refine ⟨by simpa using hs, ?_⟩
    split at hk <;> first | (cases hk; assumption) | (cases hk; done)
  · cases hk
theorem ksT_notAgg {t : TypeId} {k : KS} (hk : ksT P t = some k) : isAgg? P t = false := by
  have := (ksT_und hk).2
  unfold isAgg?
  cases k <;> simp at this <;> simp [this]

/-- cells of one shape are equal as Go has it iff they are one -/
theorem equalIn_cell {k : KS} {t : TypeId} (hk : ksT P t = some k) {x y : AV} {u v : Value} (hx : VRel ρ x u) (hy : VRel ρ y v) (ox : ksOk k x = true) (oy : ksOk k y = true) (d : Nat) :
    (Op.equalIn (d + 1) t u v).run P w = .ok (AV.beq x y) w := by
  have hu := (ksT_und hk).2
  cases k with
  | int k =>
    obtain ⟨n, rfl⟩ := ksOk_int ox
    obtain ⟨m, rfl⟩ := ksOk_int oy
    cases hx; cases hy
    rw [run_equalIn_int w d t k k n m hu]
    have : AV.beq (.int k n) (.int k m) = (n == m) := by
      have h1 := (kEq_iff k k).2 rfl
      simp only [AV.beq, brec_and, h1, Bool.true_and, iEq_eq]
    rw [this]
  | str =>
    obtain ⟨a, n, rfl⟩ := ksOk_str ox
    obtain ⟨b, m, rfl⟩ := ksOk_str oy
    obtain ⟨ha, rfl⟩ := hx
    obtain ⟨hb, rfl⟩ := hy
    rw [run_equalIn_string w d t _ _ hu, str_list, str_list, ← strEq_eq ha hb]
    congr 1
    have : AV.beq (.str a n) (.str b m) = (Nat.beq a b && Nat.beq n m) := by simp only [AV.beq, brec_and]
    rw [this]
    unfold sEq
    cases Nat.beq a b <;> rfl
  | bool =>
    obtain ⟨a, rfl⟩ := ksOk_bool ox
    obtain ⟨b, rfl⟩ := ksOk_bool oy
    cases hx; cases hy
    rw [run_equalIn_bool' w d t _ _ hu]
    simp only [AV.beq, brec_eq]

/-- the fields of a flat struct -/
theorem flatFields_spec : ∀ (fs : List Field) (n : Nat) (l : List KS), flatFields P n fs = some l →
    l.length = fs.length ∧ ∀ i f, fs[i]? = some f → f.offset = n + i ∧ f.name ≠ "_" ∧ ∃ k, l[i]? = some k ∧ ksT P f.type = some k
  | [], n, l, h => by cases h; exact ⟨rfl, fun i f hf => by simp at hf⟩
  | f :: r, n, l, h => by
    simp only [flatFields] at h
    split at h
    · rename_i hc
      simp only [Bool.and_eq_true, beq_iff_eq, bne_iff_ne] at hc
      split at h
      · rename_i k l' hk hl
        cases h
        obtain ⟨h1, h2⟩ := flatFields_spec r (n + 1) l' hl
        refine ⟨by simp [h1], fun i f' hf => ?_⟩
        cases i with
        | zero => simp at hf; subst hf; exact ⟨hc.1, hc.2, k, rfl, hk⟩
        | succ i =>
          obtain ⟨a, b, k', c, d⟩ := h2 i f' (by simpa using hf)
          exact ⟨by omega, b, k', by simpa using c, d⟩
      · cases h
    · cases h

theorem ksOkL_spec : ∀ (l : List KS) (m : List AV), ksOkL l m = true → m.length = l.length ∧ ∀ (i : Nat) k v, l[i]? = some k → m[i]? = some v → ksOk k v = true
  | [], [], _ => ⟨rfl, fun i k v h => by simp at h⟩
  | [], _ :: _, h => by simp [ksOkL] at h
  | _ :: _, [], h => by simp [ksOkL] at h
  | k :: l, v :: m, h => by
    simp only [ksOkL] at h
    split at h
    · rename_i h0
      obtain ⟨h1, h2⟩ := ksOkL_spec l m h
      refine ⟨by simp [h1], fun i k' v' hk hv => ?_⟩
      cases i with
      | zero => simp at hk hv; subst hk; subst hv; exact h0
      | succ i => exact h2 i k' v' (by simpa using hk) (by simpa using hv)
    · cases h

theorem run_part_cell {t : TypeId} {k : KS} (hk : ksT P t = some k) {cs : Array Value} {i : Nat} {v : Value} (hv : cs[i]? = some v) : (part t cs i).run P w = .ok v w := by
  have hn := ksT_notAgg hk
  have hu := (ksT_und hk).2
  have : ∃ d, P.underlying t = some d := by cases k <;> exact ⟨_, hu⟩
  obtain ⟨d, hd⟩ := this
  simp [part, run_agg_f hd hn, hv]

/-- fields from n on: equal iff the cells from n on are -/
theorem eqFields_flat (d : Nat) : ∀ (fs : List Field) (n : Nat) (l : List KS), flatFields P n fs = some l → ∀ (x y : List AV) (a b : List Value), ksOkL l x = true → ksOkL l y = true →
    VRelL ρ x a → VRelL ρ y b → ∀ (A B : Array Value), (∀ i v, a[i]? = some v → A[n + i]? = some v) → (∀ i v, b[i]? = some v → B[n + i]? = some v) →
    (Op.eqFields (d + 1) A B fs).run P w = .ok (AV.beqL x y) w
  | [], n, l, hf, x, y, a, b, hx, hy, ra, rb, A, Bv, hA, hB => by
    cases hf
    have : x = [] := by cases x <;> simp [ksOkL] at hx; rfl
    subst this
    have : y = [] := by cases y <;> simp [ksOkL] at hy; rfl
    subst this
    rfl
  | f :: r, n, l, hf, x, y, a, b, hx, hy, ra, rb, A, Bv, hA, hB => by
    have hs := flatFields_spec _ _ _ hf
    simp only [flatFields] at hf
    split at hf
    · rename_i hc
      split at hf
      · rename_i k l' hk hl
        cases hf
        cases x with
        | nil => simp [ksOkL] at hx
        | cons x0 x =>
        cases y with
        | nil => simp [ksOkL] at hy
        | cons y0 y =>
        obtain ⟨u, a', rfl, hu, ra'⟩ := ra
        obtain ⟨v, b', rfl, hv, rb'⟩ := rb
        simp only [Bool.and_eq_true, beq_iff_eq, bne_iff_ne] at hc
        obtain ⟨ho, hn⟩ := hc
        have hx0 : ksOk k x0 = true := by simp only [ksOkL] at hx; split at hx <;> first | assumption | cases hx
        have hy0 : ksOk k y0 = true := by simp only [ksOkL] at hy; split at hy <;> first | assumption | cases hy
        have hx1 : ksOkL l' x = true := by simp only [ksOkL, hx0] at hx; exact hx
        have hy1 : ksOkL l' y = true := by simp only [ksOkL, hy0] at hy; exact hy
        have hA0 : A[f.offset]? = some u := by rw [ho]; exact hA 0 u rfl
        have hB0 : Bv[f.offset]? = some v := by rw [ho]; exact hB 0 v rfl
        have e := equalIn_cell (P := P) (w := w) hk hu hv hx0 hy0 d
        simp only [Op.eqFields, ne_eq, hn, not_false_eq_true, if_true, Sem.run_bind, run_part_cell hk hA0, run_part_cell hk hB0, Result.andThen_ok, e]
        have ih := eqFields_flat d r (n + 1) l' hl x y a' b' hx1 hy1 ra' rb' A Bv (fun i w hw => by rw [Nat.add_right_comm, Nat.add_assoc]; exact hA (i + 1) w (by simpa using hw)) (fun i w hw => by rw [Nat.add_right_comm, Nat.add_assoc]; exact hB (i + 1) w (by simpa using hw))
        simp only [AV.beqL, brec_and]
        cases AV.beq x0 y0 with
        | true => simpa using ih
        | false => simp
      · cases hf
    · cases hf

theorem flatStruct_spec {t : TypeId} {l : List KS} (hf : flatStruct P t = some l) : ∃ fs, P.underlying t = some (.struct fs) ∧ P.stoodInHeld t = false ∧ P.eqGuardType P.depth t = false ∧ flatFields P 0 fs.toList = some l := by
  unfold flatStruct at hf
  split at hf
  · rename_i fs hu
    split at hf
    · rename_i hc
      simp only [Bool.and_eq_true, Bool.not_eq_true'] at hc
      exact ⟨fs, hu, hc.1, hc.2, hf⟩
    · cases hf
  · cases hf

theorem equalIn_struct {t : TypeId} {l : List KS} (hf : flatStruct P t = some l) {x y : List AV} {a b : List Value} (hx : ksOkL l x = true) (hy : ksOkL l y = true) (ra : VRelL ρ x a) (rb : VRelL ρ y b) (d : Nat) :
    (Op.equalIn (d + 2) t (.agg a.toArray) (.agg b.toArray)).run P w = .ok (AV.beqL x y) w := by
  obtain ⟨fs, hu, hs, _, hl⟩ := flatStruct_spec hf
  have hfo : P.fieldsOf t = fs := by simp [Program.fieldsOf, hu]
  rw [run_equalIn_struct w (d + 1) t _ _ (by rw [hfo]; exact hu) hs, hfo]
  exact eqFields_flat d fs.toList 0 l hl x y a b hx hy ra rb _ _ (fun i v hv => by simpa using hv) (fun i v hv => by simpa using hv)

end Go.Md
end
section
/- THE QUIET OPERATIONS, one by one: equality, numbers, texts, structs. No condition. -/
namespace Go.Md
variable {P : Program} {ft : FT} {B : Nat} {w0 w : World} {ρ : Rho} {h : T AO} {nx : Nat}

/-! equality -/
theorem equal_eq (t : TypeId) (x y : Value) : Op.equal t x y = Op.equalIn (9999 + 1) t x y := rfl

theorem flatEqL_spec : ∀ (s : List KS) (l m : List AV) (r : Bool), flatEqL s l m = some r → True := fun _ _ _ _ _ => trivial

theorem bEq_beq (x y : Bool) : AV.beq (.bool x) (.bool y) = bEq x y := by cases x <;> cases y <;> rfl

theorem flatEqL_fields (d : Nat) : ∀ (fs : List Field) (n : Nat) (s : List KS), flatFields P n fs = some s → ∀ (x y : List AV) (r : Bool), flatEqL s x y = some r → ∀ (a b : List Value),
    VRelL ρ x a → VRelL ρ y b → ∀ (A B : Array Value), (∀ i v, a[i]? = some v → A[n + i]? = some v) → (∀ i v, b[i]? = some v → B[n + i]? = some v) →
    (Op.eqFields (d + 1) A B fs).run P w = .ok r w
  | [], n, s, hf, x, y, r, hr, a, b, ra, rb, A, Bv, hA, hB => by
    cases hf
    cases x <;> cases y <;> simp [flatEqL] at hr
    subst hr; rfl
  | f :: fs, n, s, hf, x, y, r, hr, a, b, ra, rb, A, Bv, hA, hB => by
    simp only [flatFields] at hf
    split at hf
    · rename_i hc
      split at hf
      · rename_i k l' hk hl
        cases hf
        simp only [Bool.and_eq_true, beq_iff_eq, bne_iff_ne] at hc
        obtain ⟨ho, hn⟩ := hc
        have key : ∀ (x0 y0 : AV) (x1 y1 : List AV) (q : Bool), x = x0 :: x1 → y = y0 :: y1 → ksOk k x0 = true → ksOk k y0 = true → AV.beq x0 y0 = q →
            (q = true → flatEqL l' x1 y1 = some r) → (q = false → r = false) → (Op.eqFields (d + 1) A Bv (f :: fs)).run P w = .ok r w := by
          intro x0 y0 x1 y1 q ex ey ox oy eq h1 h2
          subst ex; subst ey
          obtain ⟨u, a', rfl, hu, ra'⟩ := ra
          obtain ⟨v, b', rfl, hv, rb'⟩ := rb
          have hA0 : A[f.offset]? = some u := by rw [ho]; exact hA 0 u rfl
          have hB0 : Bv[f.offset]? = some v := by rw [ho]; exact hB 0 v rfl
          have e := equalIn_cell (P := P) (w := w) hk hu hv ox oy d
          simp only [Op.eqFields, ne_eq, hn, not_false_eq_true, if_true, Sem.run_bind, run_part_cell hk hA0, run_part_cell hk hB0, Result.andThen_ok, e, eq]
          cases q with
          | true =>
            have ih := flatEqL_fields d fs (n + 1) l' hl x1 y1 r (h1 rfl) a' b' ra' rb' A Bv (fun i w hw => by rw [Nat.add_right_comm, Nat.add_assoc]; exact hA (i + 1) w (by simpa using hw)) (fun i w hw => by rw [Nat.add_right_comm, Nat.add_assoc]; exact hB (i + 1) w (by simpa using hw))
            simpa using ih
          | false => simp [h2 rfl]
        unfold flatEqL at hr
        split at hr
        · rename_i h0; cases h0
        · rename_i x0 x1 y0 y1 hs
          cases hs
          refine key _ _ _ _ (bEq x0 y0) rfl rfl rfl rfl (bEq_beq _ _) (fun e => ?_) (fun e => ?_)
          · simpa [e] using hr
          · rw [e] at hr; simp at hr; exact hr
        · rename_i k0 s0 k1 x0 x1 k2 y0 y1 hs
          cases hs
          split at hr
          · rename_i e1
            split at hr
            · rename_i e2
              have e1' := (kEq_iff _ _).1 e1
              have e2' := (kEq_iff _ _).1 e2
              subst e1'; subst e2'
              refine key _ _ _ _ (iEq x0 y0) rfl rfl e1 e2 ?_ (fun e => ?_) (fun e => ?_)
              · simp only [AV.beq, brec_and, e1, Bool.true_and]
              · simpa [e] using hr
              · rw [e] at hr; simp at hr; exact hr
            · cases hr
          · cases hr
        · rename_i s0 a0 n0 x1 b0 m0 y1 hs
          cases hs
          refine key _ _ _ _ (sEq a0 n0 b0 m0) rfl rfl rfl rfl ?_ (fun e => ?_) (fun e => ?_)
          · simp only [AV.beq, brec_and]; unfold sEq; cases Nat.beq a0 b0 <;> rfl
          · simpa [e] using hr
          · rw [e] at hr; simp at hr; exact hr
        · cases hr
      · cases hf
    · cases hf

theorem eqGuard_other (op : BinOp) (t : TypeId) (X Y : Operand) (u v : Value) (h1 : ¬ (u = .nilIface ∧ v = .nilIface)) (h2 : ∀ a b, ¬ (u = .agg a ∧ v = .agg b)) : (eqGuard op t X Y u v).run P w = .ok () w := by
  cases u <;> cases v <;> first | (exact absurd ⟨rfl, rfl⟩ h1) | (exact absurd ⟨rfl, rfl⟩ (h2 _ _)) | (cases op <;> rfl)
theorem eqGuard_nils (op : BinOp) (t : TypeId) (X Y : Operand) (hc : (isConst X || isConst Y) = true) : (eqGuard op t X Y .nilIface .nilIface).run P w = .ok () w := by
  cases X <;> cases Y <;> first | (cases op <;> rfl) | (simp [isConst] at hc; done)

/-- the run of '==' and '!=' out of the run of 'equal' -/
theorem eqv_run {op : BinOp} (hop : isCmp op = true) {t : TypeId} {X Y : Operand} {u v : Value} {r : Bool} (hg : (eqGuard op t X Y u v).run P w = .ok () w)
    (hi : ∀ k a k' b, ¬ (u = .int k a ∧ v = .int k' b)) (hs : ∀ a b, ¬ (u = .string a ∧ v = .string b)) (hf : ∀ k a, u ≠ .float k a) (hcx : ∀ k a b, u ≠ .complex k a b)
    (he : (Op.equal t u v).run P w = .ok r w) :
    ((do eqGuard op t X Y u v; binOp op t u v) : Sem Value).run P w = .ok (.bool (if op == .neq then !r else r)) w := by
  have key : (binOp op t u v).run P w = .ok (.bool (if op == .neq then !r else r)) w := by
    cases op <;> simp [isCmp] at hop
    · have e : binOp .eql t u v = (do pure (.bool (← Op.equal t u v))) := by
        cases u <;> cases v <;> first | rfl | (exact absurd ⟨rfl, rfl⟩ (hi _ _ _ _)) | (exact absurd ⟨rfl, rfl⟩ (hs _ _)) | (exact absurd rfl (hf _ _)) | (exact absurd rfl (hcx _ _ _))
      rw [e]; simp [he]
    · have e : binOp .neq t u v = (do pure (.bool (!(← Op.equal t u v)))) := by
        cases u <;> cases v <;> first | rfl | (exact absurd ⟨rfl, rfl⟩ (hi _ _ _ _)) | (exact absurd ⟨rfl, rfl⟩ (hs _ _)) | (exact absurd rfl (hf _ _)) | (exact absurd rfl (hcx _ _ _))
      rw [e]; simp [he]
  simp [hg, key]

section
variable (d : Nat) {t : TypeId}
theorem eqIn_p1 {e : TypeId} (hu : P.underlying t = some (.pointer e)) (b : Option Addr) : (Op.equalIn (d + 1) t (.pointer none) (.pointer b)).run P w = .ok b.isNone w := by simp [Op.equalIn, run_und hu]
theorem eqIn_p2 {e : TypeId} (hu : P.underlying t = some (.pointer e)) (a : Addr) : (Op.equalIn (d + 1) t (.pointer (some a)) (.pointer none)).run P w = .ok false w := by simp [Op.equalIn, run_und hu]
theorem eqIn_s1 {e : TypeId} (hu : P.underlying t = some (.slice e)) (b : Option Addr) (n c : Nat) : (Op.equalIn (d + 1) t (.slice none 0 0) (.slice b n c)).run P w = .ok b.isNone w := by simp [Op.equalIn, run_und hu]
theorem eqIn_s2 {e : TypeId} (hu : P.underlying t = some (.slice e)) (a : Addr) (n c : Nat) : (Op.equalIn (d + 1) t (.slice (some a) n c) (.slice none 0 0)).run P w = .ok false w := by simp [Op.equalIn, run_und hu]
theorem eqIn_m1 {k e : TypeId} (hu : P.underlying t = some (.map k e)) (b : Option Nat) : (Op.equalIn (d + 1) t (.map none) (.map b)).run P w = .ok b.isNone w := by simp [Op.equalIn, run_und hu]
theorem eqIn_m2 {k e : TypeId} (hu : P.underlying t = some (.map k e)) (a : Nat) : (Op.equalIn (d + 1) t (.map (some a)) (.map none)).run P w = .ok false w := by simp [Op.equalIn, run_und hu]
theorem eqIn_f1 {ps rs : Array TypeId} {vd : Bool} (hu : P.underlying t = some (.func ps rs vd)) : (Op.equalIn (d + 1) t .nilFunc .nilFunc).run P w = .ok true w := by simp [Op.equalIn, run_und hu]
theorem eqIn_f2 {ps rs : Array TypeId} {vd : Bool} (hu : P.underlying t = some (.func ps rs vd)) (f : Fn) (a b : Array Value) : (Op.equalIn (d + 1) t .nilFunc (.func f a b)).run P w = .ok false w := by simp [Op.equalIn, run_und hu]
theorem eqIn_f3 {ps rs : Array TypeId} {vd : Bool} (hu : P.underlying t = some (.func ps rs vd)) (f : Fn) (a b : Array Value) : (Op.equalIn (d + 1) t (.func f a b) .nilFunc).run P w = .ok false w := by simp [Op.equalIn, run_und hu]
theorem eqIn_i1 {ms : Array (String × TypeId)} (hu : P.underlying t = some (.interface ms)) : (Op.equalIn (d + 1) t .nilIface .nilIface).run P w = .ok true w := by simp [Op.equalIn, run_und hu]
theorem eqIn_i2 {ms : Array (String × TypeId)} (hu : P.underlying t = some (.interface ms)) (u : TypeId) (v : Value) : (Op.equalIn (d + 1) t .nilIface (.iface u v)).run P w = .ok false w := by simp [Op.equalIn, run_und hu]
theorem eqIn_i3 {ms : Array (String × TypeId)} (hu : P.underlying t = some (.interface ms)) (u : TypeId) (v : Value) : (Op.equalIn (d + 1) t (.iface u v) .nilIface).run P w = .ok false w := by simp [Op.equalIn, run_und hu]
end

set_option maxHeartbeats 1000000 in
theorem eqv_ok {op : BinOp} (hop : isCmp op = true) {t : TypeId} {X Y : Operand} {k : EK} (hk : eqKind P t (isConst X || isConst Y) = some k) {a b : AV} {r : Bool} (hr : eqAny k a b = some r) {u v : Value}
    (ha : VRel ρ a u) (hb : VRel ρ b v) : ((do eqGuard op t X Y u v; binOp op t u v) : Sem Value).run P w = .ok (.bool (if op == .neq then !r else r)) w := by
  unfold eqKind at hk
  split at hk
  · rename_i hu
    cases hk
    cases a <;> cases b <;> first | (simp [eqAny, flatEq] at hr; done) | skip
    simp only [eqAny, flatEq, Option.some.injEq] at hr
    subst hr; cases ha; cases hb
    refine eqv_run hop (eqGuard_other _ _ _ _ _ _ (by simp) (by simp)) (by simp) (by simp) (by simp) (by simp) ?_
    rw [equal_eq, run_equalIn_bool' w 9999 t _ _ hu, bEq_eq]
  · rename_i hu
    cases hk
    cases a <;> cases b <;> first | (simp [eqAny, flatEq] at hr; done) | skip
    all_goals
      simp only [eqAny, flatEq, Option.some.injEq] at hr
      subst hr
      simp only [VRel] at ha hb
      first | subst ha | (obtain ⟨_, _, rfl⟩ := ha) | (obtain ⟨_, rfl, _⟩ := ha) | (obtain ⟨_, _, _, rfl, _⟩ := ha) | (obtain ⟨_, _, rfl, _⟩ := ha)
      first | subst hb | (obtain ⟨_, _, rfl⟩ := hb) | (obtain ⟨_, rfl, _⟩ := hb) | (obtain ⟨_, _, _, rfl, _⟩ := hb) | (obtain ⟨_, _, rfl, _⟩ := hb)
      refine eqv_run hop (eqGuard_other _ _ _ _ _ _ (by simp) (by simp)) (by simp) (by simp) (by simp) (by simp) ?_
      rw [equal_eq]; first | exact eqIn_p1 _ hu _ | exact eqIn_p2 _ hu _ | exact eqIn_s1 _ hu _ _ _ | exact eqIn_s2 _ hu _ _ _ | exact eqIn_m1 _ hu _ | exact eqIn_m2 _ hu _ | exact eqIn_f1 _ hu | exact eqIn_f2 _ hu _ _ _ | exact eqIn_f3 _ hu _ _ _
  · rename_i hu
    cases hk
    cases a <;> cases b <;> first | (simp [eqAny, flatEq] at hr; done) | skip
    all_goals
      simp only [eqAny, flatEq, Option.some.injEq] at hr
      subst hr
      simp only [VRel] at ha hb
      first | subst ha | (obtain ⟨_, _, rfl⟩ := ha) | (obtain ⟨_, rfl, _⟩ := ha) | (obtain ⟨_, _, _, rfl, _⟩ := ha) | (obtain ⟨_, _, rfl, _⟩ := ha)
      first | subst hb | (obtain ⟨_, _, rfl⟩ := hb) | (obtain ⟨_, rfl, _⟩ := hb) | (obtain ⟨_, _, _, rfl, _⟩ := hb) | (obtain ⟨_, _, rfl, _⟩ := hb)
      refine eqv_run hop (eqGuard_other _ _ _ _ _ _ (by simp) (by simp)) (by simp) (by simp) (by simp) (by simp) ?_
      rw [equal_eq]; first | exact eqIn_p1 _ hu _ | exact eqIn_p2 _ hu _ | exact eqIn_s1 _ hu _ _ _ | exact eqIn_s2 _ hu _ _ _ | exact eqIn_m1 _ hu _ | exact eqIn_m2 _ hu _ | exact eqIn_f1 _ hu | exact eqIn_f2 _ hu _ _ _ | exact eqIn_f3 _ hu _ _ _
  · rename_i hu
    cases hk
    cases a <;> cases b <;> first | (simp [eqAny, flatEq] at hr; done) | skip
    all_goals
      simp only [eqAny, flatEq, Option.some.injEq] at hr
      subst hr
      simp only [VRel] at ha hb
      first | subst ha | (obtain ⟨_, _, rfl⟩ := ha) | (obtain ⟨_, rfl, _⟩ := ha) | (obtain ⟨_, _, _, rfl, _⟩ := ha) | (obtain ⟨_, _, rfl, _⟩ := ha)
      first | subst hb | (obtain ⟨_, _, rfl⟩ := hb) | (obtain ⟨_, rfl, _⟩ := hb) | (obtain ⟨_, _, _, rfl, _⟩ := hb) | (obtain ⟨_, _, rfl, _⟩ := hb)
      refine eqv_run hop (eqGuard_other _ _ _ _ _ _ (by simp) (by simp)) (by simp) (by simp) (by simp) (by simp) ?_
      rw [equal_eq]; first | exact eqIn_p1 _ hu _ | exact eqIn_p2 _ hu _ | exact eqIn_s1 _ hu _ _ _ | exact eqIn_s2 _ hu _ _ _ | exact eqIn_m1 _ hu _ | exact eqIn_m2 _ hu _ | exact eqIn_f1 _ hu | exact eqIn_f2 _ hu _ _ _ | exact eqIn_f3 _ hu _ _ _
  · rename_i hu
    cases hk
    cases a <;> cases b <;> first | (simp [eqAny, flatEq] at hr; done) | skip
    all_goals
      simp only [eqAny, flatEq, Option.some.injEq] at hr
      subst hr
      simp only [VRel] at ha hb
      first | subst ha | (obtain ⟨_, _, rfl⟩ := ha) | (obtain ⟨_, rfl, _⟩ := ha) | (obtain ⟨_, _, _, rfl, _⟩ := ha) | (obtain ⟨_, _, rfl, _⟩ := ha)
      first | subst hb | (obtain ⟨_, _, rfl⟩ := hb) | (obtain ⟨_, rfl, _⟩ := hb) | (obtain ⟨_, _, _, rfl, _⟩ := hb) | (obtain ⟨_, _, rfl, _⟩ := hb)
      refine eqv_run hop (eqGuard_other _ _ _ _ _ _ (by simp) (by simp)) (by simp) (by simp) (by simp) (by simp) ?_
      rw [equal_eq]; first | exact eqIn_p1 _ hu _ | exact eqIn_p2 _ hu _ | exact eqIn_s1 _ hu _ _ _ | exact eqIn_s2 _ hu _ _ _ | exact eqIn_m1 _ hu _ | exact eqIn_m2 _ hu _ | exact eqIn_f1 _ hu | exact eqIn_f2 _ hu _ _ _ | exact eqIn_f3 _ hu _ _ _
  · rename_i ms hu
    by_cases hcc : (isConst X || isConst Y) = true
    · rw [if_pos hcc] at hk
      cases hk
      cases a <;> cases b <;> first | (simp [eqAny, flatEq] at hr; done) | skip
      all_goals
        simp only [eqAny, flatEq, Option.some.injEq] at hr
        subst hr
        simp only [VRel] at ha hb
        first | subst ha | (obtain ⟨_, rfl, _⟩ := ha)
        first | subst hb | (obtain ⟨_, rfl, _⟩ := hb)
        refine eqv_run hop (by first | exact eqGuard_nils _ _ _ _ hcc | exact eqGuard_other _ _ _ _ _ _ (by simp) (by simp)) (by simp) (by simp) (by simp) (by simp) ?_
        rw [equal_eq]; first | exact eqIn_i1 _ hu | exact eqIn_i2 _ hu _ _ | exact eqIn_i3 _ hu _ _
    · rw [if_neg hcc] at hk
      cases hk
      cases a <;> cases b <;> first | (simp [eqAny, flatEq] at hr; done) | skip
      all_goals
        simp only [eqAny, flatEq, Option.some.injEq] at hr
        subst hr
        simp only [VRel] at ha hb
        first | subst ha | (obtain ⟨_, rfl, _⟩ := ha)
        first | subst hb | (obtain ⟨_, rfl, _⟩ := hb)
        refine eqv_run hop (eqGuard_other _ _ _ _ _ _ (by simp) (by simp)) (by simp) (by simp) (by simp) (by simp) ?_
        rw [equal_eq]; first | exact eqIn_i1 _ hu | exact eqIn_i2 _ hu _ _ | exact eqIn_i3 _ hu _ _
  · rename_i fs hu
    cases hf : flatStruct P t with
    | none => simp [hf] at hk
    | some s =>
      simp [hf] at hk
      subst hk
      cases a <;> cases b <;> first | (simp [eqAny] at hr; done) | skip
      rename_i l m
      simp only [eqAny] at hr
      obtain ⟨x, rfl, rx⟩ := ha
      obtain ⟨y, rfl, ry⟩ := hb
      obtain ⟨fs, hu, hst, hgt, hl⟩ := flatStruct_spec hf
      refine eqv_run hop (run_eqGuard_agg w op t X Y _ _ hgt) (by simp) (by simp) (by simp) (by simp) ?_
      have hfo : P.fieldsOf t = fs := by simp [Program.fieldsOf, hu]
      rw [equal_eq, run_equalIn_struct w 9999 t _ _ (by rw [hfo]; exact hu) hst, hfo]
      exact flatEqL_fields 9998 fs.toList 0 s hl l m r hr x y rx ry _ _ (fun i v hv => by simpa using hv) (fun i v hv => by simpa using hv)
  · cases hk

end Go.Md
end
