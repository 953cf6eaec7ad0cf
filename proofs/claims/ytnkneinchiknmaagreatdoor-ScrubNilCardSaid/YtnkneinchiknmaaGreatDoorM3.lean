import GoSem.Op.String
import Derived.Calls
import Derived.Below
import Derived.Laws.Sem
import Derived.Laws.World
import Derived.Laws.Cells
import Derived.Laws.Rows
import GoSem.Dispatch
import Derived.Laws.Strings
import Derived.Test.YtnkneinchiknmaaGreatDoorM2
set_option linter.unusedVariables false
set_option linter.unusedSimpArgs false
set_option linter.unusedSectionVars false
section
/- BYTES IN ONE NUMBER: what 'byt', 'subB', 'catB', 'putB', 'strLt' of D say of the row of bytes. No condition. -/
namespace Go.Md

theorem blt_t {a b : Nat} (h : a < b) : Nat.blt a b = true := by rw [Nat.blt_eq]; exact h
theorem blt_f {a b : Nat} (h : ¬ a < b) : Nat.blt a b = false := by
  cases e : Nat.blt a b with
  | false => rfl
  | true => rw [Nat.blt_eq] at e; exact absurd e h
theorem ble_t {a b : Nat} (h : a ≤ b) : Nat.ble a b = true := by rw [Nat.ble_eq]; exact h
theorem ble_f {a b : Nat} (h : ¬ a ≤ b) : Nat.ble a b = false := by
  cases e : Nat.ble a b with
  | false => rfl
  | true => rw [Nat.ble_eq] at e; exact absurd e h
theorem lt_of_blt {a b : Nat} (h : Nat.blt a b = true) : a < b := by rwa [Nat.blt_eq] at h
theorem le_of_ble {a b : Nat} (h : Nat.ble a b = true) : a ≤ b := by rwa [Nat.ble_eq] at h
theorem eq_of_beq' {a b : Nat} (h : Nat.beq a b = true) : a = b := Nat.eq_of_beq_eq_true h
theorem ne_of_beq' {a b : Nat} (h : Nat.beq a b = false) : a ≠ b := fun e => by subst e; simp at h

def unpackN : Nat → Nat → List UInt8
  | _, 0 => []
  | bits, n+1 => UInt8.ofNat (bits % 256) :: unpackN (bits / 256) n

theorem byt_def (bits i : Nat) : byt bits i = bits / 256 ^ i % 256 := rfl
theorem subB_def (bits lo n : Nat) : subB bits lo n = bits / 256 ^ lo % 256 ^ n := rfl
theorem catB_def (a n b : Nat) : catB a n b = a + b * 256 ^ n := rfl
theorem putB_def (bits off n x : Nat) : putB bits off n x = bits % 256 ^ off + (x + bits / 256 ^ (off + n) * 256 ^ n) * 256 ^ off := rfl

theorem pow_pos' (n : Nat) : 0 < 256 ^ n := Nat.pow_pos (by decide)

theorem byt_zero (bits : Nat) : byt bits 0 = bits % 256 := by simp [byt_def]
theorem byt_succ (bits i : Nat) : byt bits (i + 1) = byt (bits / 256) i := by
  rw [byt_def, byt_def, Nat.div_div_eq_div_mul, Nat.pow_succ, Nat.mul_comm]
theorem byt_lt (bits i : Nat) : byt bits i < 256 := Nat.mod_lt _ (by decide)

theorem unpackN_length : ∀ (n bits : Nat), (unpackN bits n).length = n
  | 0, _ => rfl
  | n + 1, bits => by simp [unpackN, unpackN_length n]

theorem unpackN_get : ∀ (n bits i : Nat), (unpackN bits n)[i]? = if i < n then some (UInt8.ofNat (byt bits i)) else none
  | 0, bits, i => by simp [unpackN]
  | n + 1, bits, 0 => by simp [unpackN, byt_zero]
  | n + 1, bits, i + 1 => by simp [unpackN, unpackN_get n, byt_succ]

theorem byt_subB (bits lo n i : Nat) (h : i < n) : byt (subB bits lo n) i = byt bits (lo + i) := by
  rw [byt_def, byt_def, subB_def]
  have e : 256 ^ n = 256 ^ i * 256 ^ (n - i) := by rw [← Nat.pow_add]; congr 1; omega
  rw [e, Nat.mod_mul_right_div_self, Nat.div_div_eq_div_mul, ← Nat.pow_add]
  have e2 : 256 ^ (n - i) = 256 * 256 ^ (n - i - 1) := by rw [← Nat.pow_succ']; congr 1; omega
  rw [e2, Nat.mod_mul_right_mod]

theorem byt_cat_lo {a : Nat} (n b i : Nat) (h : i < n) : byt (catB a n b) i = byt a i := by
  rw [byt_def, byt_def, catB_def]
  have e : b * 256 ^ n = 256 ^ i * (256 * (b * 256 ^ (n - i - 1))) := by
    have : 256 ^ n = 256 ^ i * (256 * 256 ^ (n - i - 1)) := by
      rw [← Nat.pow_succ', ← Nat.pow_add]; congr 1; omega
    rw [this]
    generalize 256 ^ i = x; generalize 256 ^ (n - i - 1) = y
    rw [Nat.mul_left_comm, Nat.mul_left_comm b 256 y]
  rw [e, Nat.add_mul_div_left _ _ (pow_pos' i), Nat.add_mul_mod_self_left]

theorem byt_cat_hi {a : Nat} (n b i : Nat) (ha : a < 256 ^ n) (h : n ≤ i) : byt (catB a n b) i = byt b (i - n) := by
  rw [byt_def, byt_def, catB_def]
  have e : 256 ^ i = 256 ^ n * 256 ^ (i - n) := by rw [← Nat.pow_add]; congr 1; omega
  rw [e, ← Nat.div_div_eq_div_mul, Nat.add_mul_div_right _ _ (pow_pos' n), Nat.div_eq_of_lt ha, Nat.zero_add]

theorem subB_lt (bits lo n : Nat) : subB bits lo n < 256 ^ n := Nat.mod_lt _ (pow_pos' n)
theorem catB_lt {a n b m : Nat} (ha : a < 256 ^ n) (hb : b < 256 ^ m) : catB a n b < 256 ^ (n + m) := by
  rw [catB_def, Nat.pow_add]
  have : (b + 1) * 256 ^ n ≤ 256 ^ m * 256 ^ n := Nat.mul_le_mul_right _ hb
  rw [Nat.add_mul] at this
  rw [Nat.mul_comm (256 ^ n)]; omega

theorem putB_cat (bits off n x : Nat) : putB bits off n x = catB (bits % 256 ^ off) off (catB x n (bits / 256 ^ (off + n))) := rfl
theorem byt_put {bits off n x : Nat} (hx : x < 256 ^ n) (i : Nat) : byt (putB bits off n x) i = if i < off then byt bits i else if i < off + n then byt x (i - off) else byt bits i := by
  rw [putB_cat]
  by_cases h1 : i < off
  · rw [if_pos h1, byt_cat_lo _ _ _ h1]
    have := byt_subB bits 0 off i h1
    simpa [subB_def] using this
  · rw [if_neg h1, byt_cat_hi _ _ _ (Nat.mod_lt _ (pow_pos' off)) (by omega)]
    by_cases h2 : i < off + n
    · rw [if_pos h2, byt_cat_lo _ _ _ (by omega)]
    · rw [if_neg h2, byt_cat_hi _ _ _ hx (by omega), byt_def, byt_def, Nat.div_div_eq_div_mul, ← Nat.pow_add]
      congr 3; omega

theorem eq_of_byt : ∀ (n a b : Nat), a < 256 ^ n → b < 256 ^ n → (∀ i, i < n → byt a i = byt b i) → a = b
  | 0, a, b, ha, hb, _ => by simp at ha hb; omega
  | n + 1, a, b, ha, hb, h => by
    have h0 := h 0 (by omega)
    rw [byt_zero, byt_zero] at h0
    have h1 := eq_of_byt n (a / 256) (b / 256) (by rw [Nat.pow_succ] at ha; exact Nat.div_lt_of_lt_mul (by rw [Nat.mul_comm]; exact ha)) (by rw [Nat.pow_succ] at hb; exact Nat.div_lt_of_lt_mul (by rw [Nat.mul_comm]; exact hb))
      (fun i hi => by have := h (i + 1) (by omega); rwa [byt_succ, byt_succ] at this)
    omega

theorem u8_inj {a b : Nat} (ha : a < 256) (hb : b < 256) (h : UInt8.ofNat a = UInt8.ofNat b) : a = b := by
  have := congrArg UInt8.toNat h
  simp at this
  rwa [Nat.mod_eq_of_lt ha, Nat.mod_eq_of_lt hb] at this

theorem unpackN_inj {n a b : Nat} (ha : a < 256 ^ n) (hb : b < 256 ^ n) (h : unpackN a n = unpackN b n) : a = b := by
  refine eq_of_byt n a b ha hb fun i hi => ?_
  have h1 := unpackN_get n a i
  have h2 := unpackN_get n b i
  rw [h, h2] at h1
  simp only [if_pos hi, Option.some.injEq] at h1
  exact (u8_inj (byt_lt _ _) (byt_lt _ _) h1).symm

theorem unpackN_sub {bits lo k n : Nat} (h : lo + k ≤ n) : ((unpackN bits n).drop lo).take k = unpackN (subB bits lo k) k := by
  apply List.ext_getElem?
  intro i
  rw [unpackN_get, List.getElem?_take]
  by_cases hi : i < k
  · rw [if_pos hi, if_pos hi, List.getElem?_drop, unpackN_get, if_pos (by omega), byt_subB _ _ _ _ hi]
  · rw [if_neg hi, if_neg hi]

theorem unpackN_cat {a n b m : Nat} (ha : a < 256 ^ n) : unpackN (catB a n b) (n + m) = unpackN a n ++ unpackN b m := by
  apply List.ext_getElem?
  intro i
  rw [unpackN_get]
  by_cases hi : i < n
  · rw [List.getElem?_append_left (by rw [unpackN_length]; exact hi), unpackN_get, if_pos hi, if_pos (by omega), byt_cat_lo _ _ _ hi]
  · rw [List.getElem?_append_right (by rw [unpackN_length]; omega), unpackN_length, unpackN_get]
    by_cases h2 : i < n + m
    · rw [if_pos h2, if_pos (by omega), byt_cat_hi _ _ _ ha (by omega)]
    · rw [if_neg h2, if_neg (by omega)]

theorem packS_lt : ∀ l : List UInt8, packS l < 256 ^ l.length
  | [] => by simp [packS]
  | b :: r => by
    have := packS_lt r
    have hb : b.toNat < 256 := b.toNat_lt
    simp only [packS, List.length_cons, Nat.pow_succ]
    omega
theorem unpackN_packS : ∀ l : List UInt8, unpackN (packS l) l.length = l
  | [] => rfl
  | b :: r => by
    have hb : b.toNat < 256 := b.toNat_lt
    simp only [packS, List.length_cons, unpackN]
    rw [show (b.toNat + packS r * 256) % 256 = b.toNat from by omega, show (b.toNat + packS r * 256) / 256 = packS r from by omega, unpackN_packS r]
    simp

theorem unpackN_lt {n a m b f : Nat} (hf : n < f) : strLt f a n b m = Op.bytesLess (unpackN a n) (unpackN b m) := by
  induction f generalizing n a m b with
  | zero => omega
  | succ f ih =>
    cases m with
    | zero => cases n <;> simp [strLt, unpackN, Op.bytesLess]
    | succ m =>
      cases n with
      | zero =>
        have n0 : Nat.beq (m + 1) 0 = false := rfl
        simp [strLt, unpackN, Op.bytesLess, n0]
      | succ n =>
        have h1 : a % 256 < 256 := Nat.mod_lt _ (by decide)
        have h2 : b % 256 < 256 := Nat.mod_lt _ (by decide)
        simp only [strLt, unpackN, Op.bytesLess]
        have e1 : (UInt8.ofNat (a % 256) < UInt8.ofNat (b % 256)) ↔ a % 256 < b % 256 := by
          rw [UInt8.lt_iff_toNat_lt]; simp
        have e2 : (UInt8.ofNat (a % 256) == UInt8.ofNat (b % 256)) = decide (a % 256 = b % 256) := by
          by_cases h : a % 256 = b % 256
          · simp [h]
          · have : UInt8.ofNat (a % 256) ≠ UInt8.ofNat (b % 256) := fun e => h (u8_inj h1 h2 e)
            simp [h, this]
        have e3 := ih (n := n) (a := a / 256) (m := m) (b := b / 256) (by omega)
        have n0 : Nat.beq (m + 1) 0 = false := rfl
        have n1 : Nat.beq (n + 1) 0 = false := rfl
        have s1 : Nat.sub (n + 1) 1 = n := rfl
        have s2 : Nat.sub (m + 1) 1 = m := rfl
        have d1 : Nat.div a 256 = a / 256 := rfl
        have d2 : Nat.div b 256 = b / 256 := rfl
        have m1 : Nat.mod a 256 = a % 256 := rfl
        have m2 : Nat.mod b 256 = b % 256 := rfl
        rw [n0, n1, s1, s2, d1, d2, m1, m2]
        simp only []
        by_cases hlt : a % 256 < b % 256
        · have : Nat.blt (a % 256) (b % 256) = true := by simp [Nat.blt_eq]; exact hlt
          rw [this]; simp [e1, hlt]
        · have hb : Nat.blt (a % 256) (b % 256) = false := blt_f hlt
          rw [hb]
          simp only []
          by_cases hgt : b % 256 < a % 256
          · have : Nat.blt (b % 256) (a % 256) = true := by simp [Nat.blt_eq]; exact hgt
            rw [this]; simp [e1, hlt, e2, show ¬ a % 256 = b % 256 by omega]
          · have : Nat.blt (b % 256) (a % 256) = false := blt_f hgt
            rw [this, e3]; simp [show a % 256 = b % 256 by omega]
end Go.Md
end
section
/- WHAT A STATE OF D SAYS OF A WORLD OF THE MODEL. 'VRel': a value; 'ORel': an object; 'Rel': the heap. No condition. -/
namespace Go.Md

/-- where an abstract number's object lies: the block, its first cell there, the cells of an element, the block's size -/
structure Gh where
  b : Nat
  d : Nat
  e : Nat
  sz : Nat
abbrev Rho := Nat → Option Gh
def Rho.le (ρ ρ' : Rho) : Prop := ∀ i g, ρ i = some g → ρ' i = some g
theorem Rho.le.refl (ρ : Rho) : ρ.le ρ := fun _ _ h => h
theorem Rho.le.trans {a b c : Rho} (h : a.le b) (k : b.le c) : a.le c := fun i g e => k i g (h i g e)

mutual
def VRel (ρ : Rho) : AV → Value → Prop
  | .undef, v => v = .tuple #[]
  | .bool x, v => v = .bool x
  | .int k n, v => v = .int k n
  | .str bits len, v => bits < 256 ^ len ∧ v = .string ⟨(unpackN bits len).toArray⟩
  | .pnil, v => v = .pointer none
  | .ptr id off, v => ∃ g, ρ id = some g ∧ v = .pointer (some ⟨g.b, g.d + off, none⟩)
  | .snil, v => v = .slice none 0 0
  | .sle, v => ∃ a c, v = .slice (some a) 0 c
  | .sl id off len cap, v => ∃ g c, ρ id = some g ∧ v = .slice (some ⟨g.b, g.d + off, none⟩) len c ∧ len ≤ c ∧ (match cap with
      | some k => c = k
      | none => g.d + off + c * g.e ≤ g.sz)
  | .mnil, v => v = .map none
  | .mp id, v => ∃ g, ρ id = some g ∧ v = .map (some g.b)
  | .fv fn first cap, v => ∃ a b, v = .func (.func fn) (a : List Value).toArray (b : List Value).toArray ∧ VRelL ρ first a ∧ VRelL ρ cap b
  | .fy id, v => ∃ g, ρ id = some g ∧ v = .func (.yield g.b) #[] #[]
  | .fnil, v => v = .nilFunc
  | .inil, v => v = .nilIface
  | .ifc t x, v => ∃ y, v = .iface t y ∧ VRel ρ x y
  | .agg l, v => ∃ a, v = .agg (a : List Value).toArray ∧ VRelL ρ l a
  | .tup l, v => ∃ a, v = .tuple (a : List Value).toArray ∧ VRelL ρ l a
def VRelL (ρ : Rho) : List AV → List Value → Prop
  | [], l => l = []
  | x :: r, l => ∃ y s, l = y :: s ∧ VRel ρ x y ∧ VRelL ρ r s
end

mutual
theorem VRel.mono {ρ ρ' : Rho} (h : ρ.le ρ') : ∀ (a : AV) (v : Value), VRel ρ a v → VRel ρ' a v
  | .undef, _, e => e
  | .bool _, _, e => e
  | .int _ _, _, e => e
  | .str _ _, _, e => e
  | .pnil, _, e => e
  | .ptr id off, v, ⟨g, hg, e⟩ => ⟨g, h _ _ hg, e⟩
  | .snil, _, e => e
  | .sle, _, e => e
  | .sl id off len cap, v, ⟨g, c, hg, e⟩ => ⟨g, c, h _ _ hg, e⟩
  | .mnil, _, e => e
  | .mp id, v, ⟨g, hg, e⟩ => ⟨g, h _ _ hg, e⟩
  | .fv fn first cap, v, ⟨a, b, e, h1, h2⟩ => ⟨a, b, e, VRelL.mono h first a h1, VRelL.mono h cap b h2⟩
  | .fy id, v, ⟨g, hg, e⟩ => ⟨g, h _ _ hg, e⟩
  | .fnil, _, e => e
  | .inil, _, e => e
  | .ifc t x, v, ⟨y, e, h1⟩ => ⟨y, e, VRel.mono h x y h1⟩
  | .agg l, v, ⟨a, e, h1⟩ => ⟨a, e, VRelL.mono h l a h1⟩
  | .tup l, v, ⟨a, e, h1⟩ => ⟨a, e, VRelL.mono h l a h1⟩
theorem VRelL.mono {ρ ρ' : Rho} (h : ρ.le ρ') : ∀ (l : List AV) (a : List Value), VRelL ρ l a → VRelL ρ' l a
  | [], _, e => e
  | x :: r, _, ⟨y, s, e, h1, h2⟩ => ⟨y, s, e, VRel.mono h x y h1, VRelL.mono h r s h2⟩
end

theorem VRelL.length {ρ : Rho} : ∀ {l : List AV} {a : List Value}, VRelL ρ l a → a.length = l.length
  | [], _, e => by cases e; rfl
  | _ :: r, _, ⟨_, s, e, _, h2⟩ => by subst e; simp [VRelL.length h2]
theorem VRelL.get {ρ : Rho} : ∀ {l : List AV} {a : List Value}, VRelL ρ l a → ∀ (i : Nat) v, l[i]? = some v → ∃ u, a[i]? = some u ∧ VRel ρ v u
  | [], _, _, i, v, h => by simp at h
  | x :: r, _, ⟨y, s, e, h1, h2⟩, i, v, h => by
    subst e
    cases i with
    | zero => simp at h; subst h; exact ⟨y, rfl, h1⟩
    | succ i => simp at h; simpa using VRelL.get h2 i v h
theorem VRelL.of_get {ρ : Rho} : ∀ {l : List AV} {a : List Value}, a.length = l.length → (∀ (i : Nat) v u, l[i]? = some v → a[i]? = some u → VRel ρ v u) → VRelL ρ l a
  | [], a, hl, _ => by cases a with
    | nil => rfl
    | cons _ _ => simp at hl
  | x :: r, a, hl, h => by
    cases a with
    | nil => simp at hl
    | cons y s => exact ⟨y, s, rfl, h 0 x y rfl rfl, VRelL.of_get (by simpa using hl) fun i v u hv hu => h (i + 1) v u (by simpa using hv) (by simpa using hu)⟩
theorem VRelL.append {ρ : Rho} : ∀ {l m : List AV} {a b : List Value}, VRelL ρ l a → VRelL ρ m b → VRelL ρ (l ++ m) (a ++ b)
  | [], _, _, _, h, k => by cases h; exact k
  | x :: r, _, _, _, ⟨y, s, e, h1, h2⟩, k => by subst e; exact ⟨y, _, rfl, h1, VRelL.append h2 k⟩
theorem VRelL.take {ρ : Rho} (n : Nat) : ∀ {l : List AV} {a : List Value}, VRelL ρ l a → VRelL ρ (l.take n) (a.take n) := by
  induction n with
  | zero => intro l a _; simp [VRelL]
  | succ n ih =>
    intro l a h
    cases l with
    | nil => cases h; simp [VRelL]
    | cons x r => obtain ⟨y, s, e, h1, h2⟩ := h; subst e; exact ⟨y, _, rfl, h1, ih h2⟩
theorem VRelL.drop {ρ : Rho} (n : Nat) : ∀ {l : List AV} {a : List Value}, VRelL ρ l a → VRelL ρ (l.drop n) (a.drop n) := by
  induction n with
  | zero => intro l a h; simpa using h
  | succ n ih =>
    intro l a h
    cases l with
    | nil => cases h; simp [VRelL]
    | cons x r => obtain ⟨y, s, e, h1, h2⟩ := h; subst e; simpa using ih h2
theorem VRelL.nil_iff {ρ : Rho} {a : List Value} : VRelL ρ [] a ↔ a = [] := Iff.rfl
theorem VRelL.two {ρ : Rho} {x y : AV} {a : List Value} (h : VRelL ρ [x, y] a) : ∃ u v, a = [u, v] ∧ VRel ρ x u ∧ VRel ρ y v := by
  obtain ⟨u, s, e, h1, v, s2, e2, h2, e3⟩ := h
  subst e; subst e2; cases e3; exact ⟨u, v, rfl, h1, h2⟩
theorem VRelL.one {ρ : Rho} {x : AV} {a : List Value} (h : VRelL ρ [x] a) : ∃ u, a = [u] ∧ VRel ρ x u := by
  obtain ⟨u, s, e, h1, e3⟩ := h
  subst e; cases e3; exact ⟨u, rfl, h1⟩
theorem VRelL.three {ρ : Rho} {x y z : AV} {a : List Value} (h : VRelL ρ [x, y, z] a) : ∃ u v t, a = [u, v, t] ∧ VRel ρ x u ∧ VRel ρ y v ∧ VRel ρ z t := by
  obtain ⟨u, s, e, h1, r⟩ := h
  obtain ⟨v, t, e2, h2, h3⟩ := VRelL.two r
  subst e; subst e2; exact ⟨u, v, t, rfl, h1, h2, h3⟩

/-- the cells of a value -/
theorem VRel.cells {ρ : Rho} {x : AV} {v : Value} (h : VRel ρ x v) : VRelL ρ x.cells v.cells.toList := by
  cases x with
  | agg l => obtain ⟨a, rfl, h1⟩ := h; simpa [AV.cells, Value.cells] using h1
  | undef => cases h; exact ⟨_, [], rfl, rfl, rfl⟩
  | bool _ => cases h; exact ⟨_, [], rfl, rfl, rfl⟩
  | int _ _ => cases h; exact ⟨_, [], rfl, rfl, rfl⟩
  | str _ _ => obtain ⟨hb, rfl⟩ := h; exact ⟨_, [], rfl, ⟨hb, rfl⟩, rfl⟩
  | pnil => cases h; exact ⟨_, [], rfl, rfl, rfl⟩
  | ptr _ _ => obtain ⟨g, hg, rfl⟩ := h; exact ⟨_, [], rfl, ⟨g, hg, rfl⟩, rfl⟩
  | snil => cases h; exact ⟨_, [], rfl, rfl, rfl⟩
  | sle => obtain ⟨a, c, rfl⟩ := h; exact ⟨_, [], rfl, ⟨a, c, rfl⟩, rfl⟩
  | sl _ _ _ _ => obtain ⟨g, c, hg, rfl, hr⟩ := h; exact ⟨_, [], rfl, ⟨g, c, hg, rfl, hr⟩, rfl⟩
  | mnil => cases h; exact ⟨_, [], rfl, rfl, rfl⟩
  | mp _ => obtain ⟨g, hg, rfl⟩ := h; exact ⟨_, [], rfl, ⟨g, hg, rfl⟩, rfl⟩
  | fv _ _ _ => obtain ⟨a, b, rfl, h1, h2⟩ := h; exact ⟨_, [], rfl, ⟨a, b, rfl, h1, h2⟩, rfl⟩
  | fy _ => obtain ⟨g, hg, rfl⟩ := h; exact ⟨_, [], rfl, ⟨g, hg, rfl⟩, rfl⟩
  | fnil => cases h; exact ⟨_, [], rfl, rfl, rfl⟩
  | inil => cases h; exact ⟨_, [], rfl, rfl, rfl⟩
  | ifc _ _ => obtain ⟨y, rfl, h1⟩ := h; exact ⟨_, [], rfl, ⟨y, rfl, h1⟩, rfl⟩
  | tup l => obtain ⟨a, rfl, h1⟩ := h; exact ⟨_, [], rfl, ⟨a, rfl, h1⟩, rfl⟩
/-- a value of one cell is one of the model's too -/
theorem VRel.oneCell {ρ : Rho} {x : AV} {v : Value} (h : VRel ρ x v) (h1 : x.one = true) : v.oneCell' = true := by
  cases x <;> simp [AV.one] at h1
  case bool => cases h; rfl
  case int => cases h; rfl
  case str => obtain ⟨_, rfl⟩ := h; rfl
  case pnil => cases h; rfl
  case ptr => obtain ⟨g, hg, rfl⟩ := h; rfl
  case snil => cases h; rfl
  case sle => obtain ⟨a, c, rfl⟩ := h; rfl
  case sl => obtain ⟨g, c, hg, rfl, hr⟩ := h; rfl
  case mnil => cases h; rfl
  case mp => obtain ⟨g, hg, rfl⟩ := h; rfl
  case fv => obtain ⟨a, b, rfl, h1, h2⟩ := h; rfl
  case fy => obtain ⟨g, hg, rfl⟩ := h; rfl
  case fnil => cases h; rfl
  case inil => cases h; rfl
  case ifc => obtain ⟨y, rfl, h1⟩ := h; rfl

/-! code and temporaries of a function -/
def CRel (P : Program) (ft : FT) (f : Nat) (dc : DC) (c : Code) : Prop :=
  ∃ df fn, ft.get f = some df ∧ P.funcs[f]? = some fn ∧ regCode P fn.ntmps df.trk c dc = some dc
def TmRel (ρ : Rho) (ft : FT) (f : Nat) (tm : T AV) (tmps : Array Value) : Prop :=
  ∃ df, ft.get f = some df ∧ ∀ t v, df.trk.testBit t = true → tm.get t = some v → VRel ρ v (tmps.getD t undef)
theorem TmRel.mono {ρ ρ' : Rho} (h : ρ.le ρ') {ft : FT} {f : Nat} {tm : T AV} {tmps : Array Value} (k : TmRel ρ ft f tm tmps) : TmRel ρ' ft f tm tmps := by
  obtain ⟨df, h1, h2⟩ := k
  exact ⟨df, h1, fun t v ht hv => VRel.mono h _ _ (h2 t v ht hv)⟩
def PendRel (P : Program) (ft : FT) (f : Nat) : Option DC → Option Code → Prop
  | none, none => True
  | some dc, some c => CRel P ft f dc c
  | _, _ => False
def stOf : Nat → LoopState
  | 0 => .ready
  | 1 => .busy
  | 2 => .done
  | _ => .exhausted

/-- an entry of a map -/
def ERel (ρ : Rho) (x : AV × AV × Nat) (e : MapEntry) : Prop := VRel ρ x.1 e.key ∧ VRel ρ x.2.1 e.val ∧ e.born = x.2.2
def ERelL (ρ : Rho) : List (AV × AV × Nat) → List MapEntry → Prop
  | [], l => l = []
  | x :: r, l => ∃ e s, l = e :: s ∧ ERel ρ x e ∧ ERelL ρ r s

def fzOk (fz : Nat × Nat) (n : Nat) : Prop := fz = (0, 0) ∨ n ≤ fz.1

def ORel (P : Program) (ft : FT) (ρ : Rho) (w : World) (g : Gh) : AO → Prop
  | .cells l n _ _ e => ∃ arr el fz, w.heap[g.b]? = some (.cells arr el fz) ∧ arr.size = g.sz ∧ fzOk fz arr.size ∧ g.d + n ≤ g.sz ∧ g.e = e ∧
      ∀ j v, j < n → l.get j = some v → ∃ u, arr[g.d + j]? = some u ∧ VRel ρ v u
  | .bytes bits n _ => ∃ arr el fz, w.heap[g.b]? = some (.cells arr el fz) ∧ arr.size = g.sz ∧ fzOk fz arr.size ∧ g.d + n ≤ g.sz ∧ g.e = 1 ∧
      ∀ j, j < n → arr[g.d + j]? = some (.int .u8 (byt bits j))
  | .map es clock sh => ∃ ents l, w.heap[g.b]? = some (.map ents clock) ∧ ents.toList.Perm l ∧ ERelL ρ es l ∧
      (es.map (·.1)).Nodup ∧ (es.map (·.2.2)).Nodup ∧ (∀ x ∈ es, x.2.2 < clock) ∧ ∀ x ∈ es, shOk sh x.1 = true
  | .loop fn tm params asg body st pend dfr => ∃ r : Loop, w.heap[g.b]? = some (.loop r) ∧ r.state = stOf st ∧ st < 4 ∧ PendRel P ft fn pend r.pending ∧ r.fn = fn ∧
      TmRel ρ ft fn tm r.tmps ∧ r.params.toList = params ∧ CRel P ft fn asg r.assign ∧ CRel P ft fn body r.body ∧ (∃ gd, ρ dfr = some gd ∧ r.defers = gd.b) ∧
      (∀ fnn, P.funcs[fn]? = some fnn → fnn.ntmps ≤ r.tmps.size) ∧ (∀ df, ft.get fn = some df → ∀ t ∈ params, t < df.n)
  | .dfr => w.heap[g.b]? = some (.deferred (some []))
  | .miter m since seen stepped => g.d = 0 ∧ ∃ m', w.heap[g.b]? = some (.mapIter m' since seen.reverse.toArray stepped) ∧ (match m with
      | none => m' = none
      | some i => ∃ gm, ρ i = some gm ∧ m' = some gm.b)

def isRo : AO → Bool
  | .cells _ _ ro _ _ => ro
  | _ => false

structure Rel (P : Program) (ft : FT) (B : Nat) (w0 : World) (ρ : Rho) (h : T AO) (nx : Nat) (w : World) : Prop where
  obj : ∀ id o, h.get id = some o → ∃ g, ρ id = some g ∧ ORel P ft ρ w g o ∧ (isRo o = true ∨ B ≤ g.b)
  inj : ∀ i j oi oj gi gj, h.get i = some oi → h.get j = some oj → ρ i = some gi → ρ j = some gj → gi.b = gj.b → i = j
  dom : ∀ id g, ρ id = some g → id < nx ∧ g.b < w.heap.size
  glob : ∀ i, i < P.globals.size → ∃ g, ρ i = some g ∧ g.b = i ∧ g.d = 0
  base : B ≤ w.heap.size
  below : RowKit.Below B w0 w

end Go.Md
end
section
/- THE MODEL's SMALL OPERATIONS RUN: lemmas on types, cells, numbers of a kind. No condition. -/
namespace Go.Md
variable {P : Program} {w : World}

theorem run_und {t : TypeId} {d : TypeDesc} (h : P.underlying t = some d) : (underlying t).run P w = .ok d w := by
  simp [underlying, h]
theorem run_tinfo {t : TypeId} {i : TypeInfo} (h : P.info? t = some i) : (typeInfo t).run P w = .ok i w := by
  simp [typeInfo, h]
theorem szOf_some {t : TypeId} {n : Nat} (h : szOf P t = some n) : ∃ i, P.info? t = some i ∧ i.size = n := by
  unfold szOf at h
  cases hi : P.info? t with
  | none => simp [hi] at h
  | some i => simp [hi] at h; exact ⟨i, rfl, h⟩
theorem szOf_some' {t : TypeId} {i : TypeInfo} (h : P.info? t = some i) : szOf P t = some i.size := by simp [szOf, h]
theorem run_size {t : TypeId} {n : Nat} (h : szOf P t = some n) : (sizeOf t).run P w = .ok n w := by
  obtain ⟨i, hi, rfl⟩ := szOf_some h
  simp [sizeOf, run_tinfo hi]
theorem run_agg_t {t : TypeId} (h : isAgg? P t = true) : (isAgg t).run P w = .ok true w := by
  unfold isAgg? at h
  cases hu : P.underlying t with
  | none => simp [hu] at h
  | some d =>
    simp only [isAgg, Sem.run_bind, run_und hu, Result.andThen_ok]
    cases d <;> simp [hu] at h <;> simp
theorem run_agg_f {t : TypeId} {d : TypeDesc} (hu : P.underlying t = some d) (h : isAgg? P t = false) : (isAgg t).run P w = .ok false w := by
  unfold isAgg? at h
  simp only [isAgg, Sem.run_bind, run_und hu, Result.andThen_ok]
  cases d <;> simp [hu] at h <;> simp

theorem aconst1_rel {ρ : Rho} {v : Value} {a : AV} (h : aconst1 v = some a) : VRel ρ a v := by
  unfold aconst1 at h
  split at h <;> first | (cases h; rfl) | (cases h; done) | skip
  case h_3 s =>
    cases h
    refine ⟨packS_lt _, ?_⟩
    rw [unpackN_packS]
theorem aconsts_rel {ρ : Rho} : ∀ {l : List Value} {a : List AV}, aconsts l = some a → VRelL ρ a l
  | [], a, h => by cases h; rfl
  | v :: r, a, h => by
    simp only [aconsts] at h
    split at h <;> first | (cases h; done) | skip
    rename_i x y hx hy
    cases h
    exact ⟨v, r, rfl, aconst1_rel hx, aconsts_rel hy⟩
theorem aconst_rel {ρ : Rho} {v : Value} {a : AV} (h : aconst v = some a) : VRel ρ a v := by
  unfold aconst at h
  split at h
  · rename_i cs
    cases hl : aconsts cs.toList with
    | none => simp [hl] at h
    | some l =>
      simp [hl] at h
      subst h
      exact ⟨cs.toList, by simp, aconsts_rel hl⟩
  · exact aconst1_rel h

theorem zeroOf_rel {ρ : Rho} {t : TypeId} {a : AV} (h : zeroOf P t = some a) : ∃ z, (zeroValue t).run P w = .ok z w ∧ VRel ρ a z ∧ (∃ i, P.info? t = some i ∧ i.zero = some z) := by
  unfold zeroOf at h
  cases hi : P.info? t with
  | none => simp [hi] at h
  | some i =>
    cases hz : i.zero with
    | none => simp [hi, hz] at h
    | some z =>
      simp [hi, hz] at h
      exact ⟨z, by simp [zeroValue, run_tinfo hi, hz], aconst_rel h, i, rfl, hz⟩

/-! numbers of a kind -/
theorem kTop_pos (k : IntKind) : 0 < kTop k := by cases k <;> simp [kTop]
theorem wrap_small {k : IntKind} {a : Nat} (h : a < kTop k) : k.wrap (Int.ofNat a) = Int.ofNat a := by
  cases k <;> simp only [kTop] at h <;> simp only [IntKind.wrap, IntKind.bits, IntKind.signed] <;> simp <;> omega
theorem fwrap_eq (k : IntKind) (n : Int) : fwrap k n = k.wrap n := by
  cases n with
  | ofNat a =>
    simp only [fwrap]
    cases h : Nat.blt a (kTop k) with
    | false => rfl
    | true => exact (wrap_small (lt_of_blt h)).symm
  | negSucc a => rfl

end Go.Md
end
section
/- THE QUIET OPERATIONS: what 'qop' answers is what the model's operation answers, in any world that the heap of D is related to; and the world stays. No condition. -/
namespace Go.Md
variable {P : Program} {ft : FT} {B : Nat} {w0 w : World} {ρ : Rho} {h : T AO} {nx : Nat}

/-- an operation yields a value, and the world stays -/
def Yld (P : Program) (ρ : Rho) (w : World) (ev : Operand → Value) (o : Oper) (v : AV) : Prop :=
  ∃ u, (execOp ev o).run P w = .ok (.value u) w ∧ VRel ρ v u

theorem run_v {s : Sem Value} {u : Value} {w w' : World} (h : s.run P w = .ok u w') : ((do pure (Next.value (← s))) : Sem Next).run P w = .ok (.value u) w' := by
  simp [h]

theorem evConst {ev : Operand → Value} (he : ∀ c, ev (.const c) = c) (c : Value) : ev (.const c) = c := he c

/-! memory -/
theorem Rel.cells (R : Rel P ft B w0 ρ h nx w) {id n e : Nat} {l : T AV} {ro opn : Bool} (hg : h.get id = some (.cells l n ro opn e)) {g : Gh} (hρ : ρ id = some g) :
    ∃ arr el fz, w.heap[g.b]? = some (.cells arr el fz) ∧ arr.size = g.sz ∧ fzOk fz arr.size ∧ g.d + n ≤ g.sz ∧ g.e = e ∧
      ∀ j v, j < n → l.get j = some v → ∃ u, arr[g.d + j]? = some u ∧ VRel ρ v u := by
  obtain ⟨g', h1, h2, _⟩ := R.obj _ _ hg
  rw [hρ] at h1; cases h1; exact h2
theorem Rel.bytes (R : Rel P ft B w0 ρ h nx w) {id bits n : Nat} {opn : Bool} (hg : h.get id = some (.bytes bits n opn)) {g : Gh} (hρ : ρ id = some g) :
    ∃ arr el fz, w.heap[g.b]? = some (.cells arr el fz) ∧ arr.size = g.sz ∧ fzOk fz arr.size ∧ g.d + n ≤ g.sz ∧ g.e = 1 ∧
      ∀ j, j < n → arr[g.d + j]? = some (.int .u8 (byt bits j)) := by
  obtain ⟨g', h1, h2, _⟩ := R.obj _ _ hg
  rw [hρ] at h1; cases h1; exact h2
theorem Rel.map (R : Rel P ft B w0 ρ h nx w) {id c : Nat} {es : List (AV × AV × Nat)} {sh : KSh} (hg : h.get id = some (.map es c sh)) {g : Gh} (hρ : ρ id = some g) :
    ∃ ents l, w.heap[g.b]? = some (.map ents c) ∧ ents.toList.Perm l ∧ ERelL ρ es l ∧ (es.map (·.1)).Nodup ∧ (es.map (·.2.2)).Nodup ∧ (∀ x ∈ es, x.2.2 < c) ∧ ∀ x ∈ es, shOk sh x.1 = true := by
  obtain ⟨g', h1, h2, _⟩ := R.obj _ _ hg
  rw [hρ] at h1; cases h1; exact h2

theorem cell_of {b j : Nat} {arr : Array Value} {el : TypeId} {fz : Nat × Nat} (hb : w.heap[b]? = some (.cells arr el fz)) : w.cell? ⟨b, j, none⟩ = arr[j]? := cell_of_row w b j arr el fz hb

theorem load1_ok (R : Rel P ft B w0 ρ h nx w) {id off : Nat} {v : AV} (hl : load1 h id off = some v) {g : Gh} (hρ : ρ id = some g) :
    ∃ u, w.cell? ⟨g.b, g.d + off, none⟩ = some u ∧ VRel ρ v u := by
  unfold load1 at hl
  split at hl
  · rename_i l m _ _ _ hg
    obtain ⟨arr, el, fz, hb, _, _, _, _, hc⟩ := R.cells hg hρ
    split at hl
    · rename_i hlt
      obtain ⟨u, hu, hr⟩ := hc off v (lt_of_blt hlt) hl
      exact ⟨u, by rw [cell_of hb, hu], hr⟩
    · cases hl
  · rename_i bits m _ hg
    obtain ⟨arr, el, fz, hb, _, _, _, _, hc⟩ := R.bytes hg hρ
    split at hl
    · rename_i hlt
      cases hl
      exact ⟨Value.int .u8 (Int.ofNat (byt bits off)), by rw [cell_of hb, hc off (lt_of_blt hlt)]; rfl, rfl⟩
    · cases hl
  · cases hl

theorem readCells_len (l : T AV) : ∀ (n off : Nat) (vs : List AV), readCells l off n = some vs → vs.length = n ∧ ∀ j v, vs[j]? = some v → l.get (off + j) = some v
  | 0, off, vs, h => by cases h; exact ⟨rfl, fun j v hv => by simp at hv⟩
  | n + 1, off, vs, h => by
    simp only [readCells] at h
    split at h
    · rename_i v hv
      split at h
      · rename_i r hr
        cases h
        obtain ⟨h1, h2⟩ := readCells_len l n _ _ hr
        refine ⟨by simp [h1], fun j u hu => ?_⟩
        cases j with
        | zero => simp at hu; subst hu; exact hv
        | succ j =>
          have := h2 j u (by simpa using hu)
          rw [show Nat.add off 1 + j = off + (j + 1) from by show off + 1 + j = _; omega] at this
          exact this
      · cases h
    · cases h

theorem unpackAV_len : ∀ (n bits : Nat), (unpackAV bits n).length = n
  | 0, _ => rfl
  | n + 1, bits => by simp [unpackAV, unpackAV_len n]
theorem unpackAV_get : ∀ (n bits j : Nat) v, (unpackAV bits n)[j]? = some v → j < n ∧ v = .int .u8 (.ofNat (byt bits j))
  | 0, _, j, v, h => by simp [unpackAV] at h
  | n + 1, bits, j, v, h => by
    cases j with
    | zero => simp [unpackAV] at h; exact ⟨by omega, by rw [← h, byt_zero]; rfl⟩
    | succ j =>
      simp only [unpackAV, List.getElem?_cons_succ] at h
      obtain ⟨h1, h2⟩ := unpackAV_get n _ j v h
      exact ⟨by omega, by rw [h2, byt_succ]; rfl⟩

theorem loadCells_ok (R : Rel P ft B w0 ρ h nx w) {id off n : Nat} {vs : List AV} (hl : loadCells h id off n = some vs) {g : Gh} (hρ : ρ id = some g) :
    ∃ us, VRelL ρ vs us ∧ us.length = n ∧ (∀ j u, us[j]? = some u → w.cell? ⟨g.b, g.d + off + j, none⟩ = some u) := by
  unfold loadCells at hl
  have key : ∀ (arr : Array Value) (el : TypeId) (fz : Nat × Nat), w.heap[g.b]? = some (.cells arr el fz) → vs.length = n →
      (∀ j v, vs[j]? = some v → ∃ u, arr[g.d + off + j]? = some u ∧ VRel ρ v u) →
      ∃ us, VRelL ρ vs us ∧ us.length = n ∧ (∀ j u, us[j]? = some u → w.cell? ⟨g.b, g.d + off + j, none⟩ = some u) := by
    intro arr el fz hb hlen hall
    refine ⟨(List.range n).map fun j => arr.getD (g.d + off + j) undef, ?_, by simp, ?_⟩
    · refine VRelL.of_get (by simp [hlen]) fun j v u hv hu => ?_
      obtain ⟨u', hu', hr⟩ := hall j v hv
      have hj : j < n := by rw [← hlen]; exact (List.getElem?_eq_some_iff.1 hv).1
      simp [hj] at hu
      rw [hu'] at hu
      simp at hu; subst hu; exact hr
    · intro j u hu
      have hj : j < n := by have := (List.getElem?_eq_some_iff.1 hu).1; simpa using this
      obtain ⟨u', hu', _⟩ := hall j _ (List.getElem?_eq_getElem (by omega))
      simp [hj, hu'] at hu
      rw [cell_of hb, hu', hu]
  split at hl
  · rename_i l m _ _ _ hg
    obtain ⟨arr, el, fz, hb, _, _, _, _, hc⟩ := R.cells hg hρ
    split at hl
    · rename_i hle
      obtain ⟨h1, h2⟩ := readCells_len _ _ _ _ hl
      refine key arr el fz hb h1 fun j v hv => ?_
      have hj : j < n := by rw [← h1]; exact (List.getElem?_eq_some_iff.1 hv).1
      have := le_of_ble hle
      have e : Nat.add off n = off + n := rfl
      obtain ⟨u, hu, hr⟩ := hc (off + j) v (by omega) (h2 j v hv)
      exact ⟨u, by rw [show g.d + off + j = g.d + (off + j) from by omega, hu], hr⟩
    · cases hl
  · rename_i bits m _ hg
    obtain ⟨arr, el, fz, hb, _, _, _, _, hc⟩ := R.bytes hg hρ
    split at hl
    · rename_i hle
      cases hl
      refine key arr el fz hb (unpackAV_len _ _) fun j v hv => ?_
      obtain ⟨h1, h2⟩ := unpackAV_get _ _ _ _ hv
      have := le_of_ble hle
      have e : Nat.add off n = off + n := rfl
      subst h2
      refine ⟨_, by rw [show g.d + off + j = g.d + (off + j) from by omega, hc (off + j) (by omega)], ?_⟩
      have e2 : byt (bits / 256 ^ off) j = byt bits (off + j) := by
        rw [byt_def, byt_def, Nat.div_div_eq_div_mul, ← Nat.pow_add]
      exact congrArg (fun x : Nat => Value.int .u8 (x : Int)) e2.symm
    · cases hl
  · cases hl

theorem run_loadCells_at {b o : Nat} {us : List Value} (hc : ∀ j u, us[j]? = some u → w.cell? ⟨b, o + j, none⟩ = some u) :
    (Go.loadCells ⟨b, o, none⟩ us.length).run P w = .ok us.toArray w :=
  run_loadCells_list w _ us fun j u hu => by
    have := hc j u hu
    unfold Addr.add
    split
    · rename_i h0; subst h0; simpa using this
    · exact this

/-! equality -/
theorem bEq_eq (x y : Bool) : bEq x y = (x == y) := by cases x <;> cases y <;> rfl
theorem sEq_iff {a n b m : Nat} : sEq a n b m = true ↔ a = b ∧ n = m := by
  unfold sEq
  cases h : Nat.beq a b with
  | true => simp [eq_of_beq' h]
  | false => simp [ne_of_beq' h]
theorem bool_of_iff {b : Bool} {p : Prop} [Decidable p] (h : b = true ↔ p) : b = decide p := by
  cases b <;> simp_all
theorem iEq_eq (a b : Int) : iEq a b = (a == b) := by rw [bool_of_iff (iEq_iff a b)]; by_cases h : a = b <;> simp [h]
theorem iLt_eq (a b : Int) : iLt a b = decide (a < b) := bool_of_iff (iLt_iff a b)

theorem str_list {bits len : Nat} : (⟨(unpackN bits len).toArray⟩ : ByteArray).toList = unpackN bits len := by
  exact ByteArray.toList_mk _

end Go.Md
end
