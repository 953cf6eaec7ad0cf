import Derived.Calls
import Derived.Below
import Derived.Laws.Sem
import Derived.Laws.World
import Derived.Laws.Cells
import Derived.Laws.Rows
import GoSem.Dispatch
import Derived.Laws.Strings
import Derived.Laws.StructEq
import Derived.Test.YtgpdolhclinjdaaGreatDoorM2
set_option linter.unusedVariables false
set_option linter.unusedSimpArgs false
set_option linter.unusedSectionVars false
section
/- WHAT A STATE OF D SAYS OF A WORLD OF THE MODEL. 'VRel': a value; 'ORel': an object; 'Rel': the heap. No condition. -/
namespace Go.Md

/-- where an abstract number's object lies: the block, its first cell there, the cells of an element, the block's size -/
structure Gh where
  b : Nat
  d : Nat
  e : Nat
  sz : Nat
abbrev Rho := Nat → Option Gh
def Rho.le (ρ ρ' : Rho) : Prop := ∀ i g, ρ i = some g → ρ' i = some g
theorem Rho.le.refl (ρ : Rho) : ρ.le ρ := fun _ _ h => h
theorem Rho.le.trans {a b c : Rho} (h : a.le b) (k : b.le c) : a.le c := fun i g e => k i g (h i g e)

mutual
def VRel (ρ : Rho) : AV → Value → Prop
  | .undef, v => v = .tuple #[]
  | .bool x, v => v = .bool x
  | .int k n, v => v = .int k n
  | .str bits len, v => bits < 256 ^ len ∧ v = .string ⟨(unpackN bits len).toArray⟩
  | .pnil, v => v = .pointer none
  | .ptr id off, v => ∃ g, ρ id = some g ∧ v = .pointer (some ⟨g.b, g.d + off, none⟩)
  | .snil, v => v = .slice none 0 0
  | .sle, v => ∃ a c, v = .slice (some a) 0 c
  | .sl id off len cap, v => ∃ g c, ρ id = some g ∧ v = .slice (some ⟨g.b, g.d + off, none⟩) len c ∧ len ≤ c ∧ (match cap with
      | some k => c = k
      | none => g.d + off + c * g.e ≤ g.sz)
  | .mnil, v => v = .map none
  | .mp id, v => ∃ g, ρ id = some g ∧ v = .map (some g.b)
  | .fv fn first cap, v => ∃ a b, v = .func (.func fn) (a : List Value).toArray (b : List Value).toArray ∧ VRelL ρ first a ∧ VRelL ρ cap b
  | .fy id, v => ∃ g, ρ id = some g ∧ v = .func (.yield g.b) #[] #[]
  | .fnil, v => v = .nilFunc
  | .inil, v => v = .nilIface
  | .ifc t x, v => ∃ y, v = .iface t y ∧ VRel ρ x y
  | .agg l, v => ∃ a, v = .agg (a : List Value).toArray ∧ VRelL ρ l a
  | .tup l, v => ∃ a, v = .tuple (a : List Value).toArray ∧ VRelL ρ l a
def VRelL (ρ : Rho) : List AV → List Value → Prop
  | [], l => l = []
  | x :: r, l => ∃ y s, l = y :: s ∧ VRel ρ x y ∧ VRelL ρ r s
end

mutual
theorem VRel.mono {ρ ρ' : Rho} (h : ρ.le ρ') : ∀ (a : AV) (v : Value), VRel ρ a v → VRel ρ' a v
  | .undef, _, e => e
  | .bool _, _, e => e
  | .int _ _, _, e => e
  | .str _ _, _, e => e
  | .pnil, _, e => e
  | .ptr id off, v, ⟨g, hg, e⟩ => ⟨g, h _ _ hg, e⟩
  | .snil, _, e => e
  | .sle, _, e => e
  | .sl id off len cap, v, ⟨g, c, hg, e⟩ => ⟨g, c, h _ _ hg, e⟩
  | .mnil, _, e => e
  | .mp id, v, ⟨g, hg, e⟩ => ⟨g, h _ _ hg, e⟩
  | .fv fn first cap, v, ⟨a, b, e, h1, h2⟩ => ⟨a, b, e, VRelL.mono h first a h1, VRelL.mono h cap b h2⟩
  | .fy id, v, ⟨g, hg, e⟩ => ⟨g, h _ _ hg, e⟩
  | .fnil, _, e => e
  | .inil, _, e => e
  | .ifc t x, v, ⟨y, e, h1⟩ => ⟨y, e, VRel.mono h x y h1⟩
  | .agg l, v, ⟨a, e, h1⟩ => ⟨a, e, VRelL.mono h l a h1⟩
  | .tup l, v, ⟨a, e, h1⟩ => ⟨a, e, VRelL.mono h l a h1⟩
theorem VRelL.mono {ρ ρ' : Rho} (h : ρ.le ρ') : ∀ (l : List AV) (a : List Value), VRelL ρ l a → VRelL ρ' l a
  | [], _, e => e
  | x :: r, _, ⟨y, s, e, h1, h2⟩ => ⟨y, s, e, VRel.mono h x y h1, VRelL.mono h r s h2⟩
end

theorem VRelL.length {ρ : Rho} : ∀ {l : List AV} {a : List Value}, VRelL ρ l a → a.length = l.length
  | [], _, e => by cases e; rfl
  | _ :: r, _, ⟨_, s, e, _, h2⟩ => by subst e; simp [VRelL.length h2]
theorem VRelL.get {ρ : Rho} : ∀ {l : List AV} {a : List Value}, VRelL ρ l a → ∀ (i : Nat) v, l[i]? = some v → ∃ u, a[i]? = some u ∧ VRel ρ v u
  | [], _, _, i, v, h => by simp at h
  | x :: r, _, ⟨y, s, e, h1, h2⟩, i, v, h => by
    subst e
    cases i with
    | zero => simp at h; subst h; exact ⟨y, rfl, h1⟩
    | succ i => simp at h; simpa using VRelL.get h2 i v h
theorem VRelL.of_get {ρ : Rho} : ∀ {l : List AV} {a : List Value}, a.length = l.length → (∀ (i : Nat) v u, l[i]? = some v → a[i]? = some u → VRel ρ v u) → VRelL ρ l a
  | [], a, hl, _ => by cases a with
    | nil => rfl
    | cons _ _ => simp at hl
  | x :: r, a, hl, h => by
    cases a with
    | nil => simp at hl
    | cons y s => exact ⟨y, s, rfl, h 0 x y rfl rfl, VRelL.of_get (by simpa using hl) fun i v u hv hu => h (i + 1) v u (by simpa using hv) (by simpa using hu)⟩
theorem VRelL.append {ρ : Rho} : ∀ {l m : List AV} {a b : List Value}, VRelL ρ l a → VRelL ρ m b → VRelL ρ (l ++ m) (a ++ b)
  | [], _, _, _, h, k => by cases h; exact k
  | x :: r, _, _, _, ⟨y, s, e, h1, h2⟩, k => by subst e; exact ⟨y, _, rfl, h1, VRelL.append h2 k⟩
theorem VRelL.take {ρ : Rho} (n : Nat) : ∀ {l : List AV} {a : List Value}, VRelL ρ l a → VRelL ρ (l.take n) (a.take n) := by
  induction n with
  | zero => intro l a _; simp [VRelL]
  | succ n ih =>
    intro l a h
    cases l with
    | nil => cases h; simp [VRelL]
    | cons x r => obtain ⟨y, s, e, h1, h2⟩ := h; subst e; exact ⟨y, _, rfl, h1, ih h2⟩
theorem VRelL.drop {ρ : Rho} (n : Nat) : ∀ {l : List AV} {a : List Value}, VRelL ρ l a → VRelL ρ (l.drop n) (a.drop n) := by
  induction n with
  | zero => intro l a h; simpa using h
  | succ n ih =>
    intro l a h
    cases l with
    | nil => cases h; simp [VRelL]
    | cons x r => obtain ⟨y, s, e, h1, h2⟩ := h; subst e; simpa using ih h2
theorem VRelL.nil_iff {ρ : Rho} {a : List Value} : VRelL ρ [] a ↔ a = [] := Iff.rfl
theorem VRelL.two {ρ : Rho} {x y : AV} {a : List Value} (h : VRelL ρ [x, y] a) : ∃ u v, a = [u, v] ∧ VRel ρ x u ∧ VRel ρ y v := by
  obtain ⟨u, s, e, h1, v, s2, e2, h2, e3⟩ := h
  subst e; subst e2; cases e3; exact ⟨u, v, rfl, h1, h2⟩
theorem VRelL.one {ρ : Rho} {x : AV} {a : List Value} (h : VRelL ρ [x] a) : ∃ u, a = [u] ∧ VRel ρ x u := by
  obtain ⟨u, s, e, h1, e3⟩ := h
  subst e; cases e3; exact ⟨u, rfl, h1⟩
theorem VRelL.three {ρ : Rho} {x y z : AV} {a : List Value} (h : VRelL ρ [x, y, z] a) : ∃ u v t, a = [u, v, t] ∧ VRel ρ x u ∧ VRel ρ y v ∧ VRel ρ z t := by
  obtain ⟨u, s, e, h1, r⟩ := h
  obtain ⟨v, t, e2, h2, h3⟩ := VRelL.two r
  subst e; subst e2; exact ⟨u, v, t, rfl, h1, h2, h3⟩

/-- the cells of a value -/
theorem VRel.cells {ρ : Rho} {x : AV} {v : Value} (h : VRel ρ x v) : VRelL ρ x.cells v.cells.toList := by
  cases x with
  | agg l => obtain ⟨a, rfl, h1⟩ := h; simpa [AV.cells, Value.cells] using h1
  | undef => cases h; exact ⟨_, [], rfl, rfl, rfl⟩
  | bool _ => cases h; exact ⟨_, [], rfl, rfl, rfl⟩
  | int _ _ => cases h; exact ⟨_, [], rfl, rfl, rfl⟩
  | str _ _ => obtain ⟨hb, rfl⟩ := h; exact ⟨_, [], rfl, ⟨hb, rfl⟩, rfl⟩
  | pnil => cases h; exact ⟨_, [], rfl, rfl, rfl⟩
  | ptr _ _ => obtain ⟨g, hg, rfl⟩ := h; exact ⟨_, [], rfl, ⟨g, hg, rfl⟩, rfl⟩
  | snil => cases h; exact ⟨_, [], rfl, rfl, rfl⟩
  | sle => obtain ⟨a, c, rfl⟩ := h; exact ⟨_, [], rfl, ⟨a, c, rfl⟩, rfl⟩
  | sl _ _ _ _ => obtain ⟨g, c, hg, rfl, hr⟩ := h; exact ⟨_, [], rfl, ⟨g, c, hg, rfl, hr⟩, rfl⟩
  | mnil => cases h; exact ⟨_, [], rfl, rfl, rfl⟩
  | mp _ => obtain ⟨g, hg, rfl⟩ := h; exact ⟨_, [], rfl, ⟨g, hg, rfl⟩, rfl⟩
  | fv _ _ _ => obtain ⟨a, b, rfl, h1, h2⟩ := h; exact ⟨_, [], rfl, ⟨a, b, rfl, h1, h2⟩, rfl⟩
  | fy _ => obtain ⟨g, hg, rfl⟩ := h; exact ⟨_, [], rfl, ⟨g, hg, rfl⟩, rfl⟩
  | fnil => cases h; exact ⟨_, [], rfl, rfl, rfl⟩
  | inil => cases h; exact ⟨_, [], rfl, rfl, rfl⟩
  | ifc _ _ => obtain ⟨y, rfl, h1⟩ := h; exact ⟨_, [], rfl, ⟨y, rfl, h1⟩, rfl⟩
  | tup l => obtain ⟨a, rfl, h1⟩ := h; exact ⟨_, [], rfl, ⟨a, rfl, h1⟩, rfl⟩
/-- a value of one cell is one of the model's too -/
theorem VRel.oneCell {ρ : Rho} {x : AV} {v : Value} (h : VRel ρ x v) (h1 : x.one = true) : v.oneCell' = true := by
  cases x <;> simp [AV.one] at h1
  case bool => cases h; rfl
  case int => cases h; rfl
  case str => obtain ⟨_, rfl⟩ := h; rfl
  case pnil => cases h; rfl
  case ptr => obtain ⟨g, hg, rfl⟩ := h; rfl
  case snil => cases h; rfl
  case sle => obtain ⟨a, c, rfl⟩ := h; rfl
  case sl => obtain ⟨g, c, hg, rfl, hr⟩ := h; rfl
  case mnil => cases h; rfl
  case mp => obtain ⟨g, hg, rfl⟩ := h; rfl
  case fv => obtain ⟨a, b, rfl, h1, h2⟩ := h; rfl
  case fy => obtain ⟨g, hg, rfl⟩ := h; rfl
  case fnil => cases h; rfl
  case inil => cases h; rfl
  case ifc => obtain ⟨y, rfl, h1⟩ := h; rfl

/-! code and temporaries of a function -/
def CRel (P : Program) (ft : FT) (f : Nat) (dc : DC) (c : Code) : Prop :=
  ∃ df fn, ft.get f = some df ∧ P.funcs[f]? = some fn ∧ regCode P fn.ntmps df.trk c dc = some dc
def TmRel (ρ : Rho) (ft : FT) (f : Nat) (tm : T AV) (tmps : Array Value) : Prop :=
  ∃ df, ft.get f = some df ∧ ∀ t v, df.trk.testBit t = true → tm.get t = some v → VRel ρ v (tmps.getD t undef)
theorem TmRel.mono {ρ ρ' : Rho} (h : ρ.le ρ') {ft : FT} {f : Nat} {tm : T AV} {tmps : Array Value} (k : TmRel ρ ft f tm tmps) : TmRel ρ' ft f tm tmps := by
  obtain ⟨df, h1, h2⟩ := k
  exact ⟨df, h1, fun t v ht hv => VRel.mono h _ _ (h2 t v ht hv)⟩
def PendRel (P : Program) (ft : FT) (f : Nat) : Option DC → Option Code → Prop
  | none, none => True
  | some dc, some c => CRel P ft f dc c
  | _, _ => False
def stOf : Nat → LoopState
  | 0 => .ready
  | 1 => .busy
  | 2 => .done
  | _ => .exhausted

/-- an entry of a map -/
def ERel (ρ : Rho) (x : AV × AV × Nat) (e : MapEntry) : Prop := VRel ρ x.1 e.key ∧ VRel ρ x.2.1 e.val ∧ e.born = x.2.2
def ERelL (ρ : Rho) : List (AV × AV × Nat) → List MapEntry → Prop
  | [], l => l = []
  | x :: r, l => ∃ e s, l = e :: s ∧ ERel ρ x e ∧ ERelL ρ r s

def fzOk (fz : Nat × Nat) (n : Nat) : Prop := fz = (0, 0) ∨ n ≤ fz.1

def ORel (P : Program) (ft : FT) (ρ : Rho) (w : World) (g : Gh) : AO → Prop
  | .cells l n _ _ e => ∃ arr el fz, w.heap[g.b]? = some (.cells arr el fz) ∧ arr.size = g.sz ∧ fzOk fz arr.size ∧ g.d + n ≤ g.sz ∧ g.e = e ∧
      ∀ j v, j < n → l.get j = some v → ∃ u, arr[g.d + j]? = some u ∧ VRel ρ v u
  | .bytes bits n _ => ∃ arr el fz, w.heap[g.b]? = some (.cells arr el fz) ∧ arr.size = g.sz ∧ fzOk fz arr.size ∧ g.d + n ≤ g.sz ∧ g.e = 1 ∧
      ∀ j, j < n → arr[g.d + j]? = some (.int .u8 (byt bits j))
  | .map es clock sh => ∃ ents l, w.heap[g.b]? = some (.map ents clock) ∧ ents.toList.Perm l ∧ ERelL ρ es l ∧
      (es.map (·.1)).Nodup ∧ (es.map (·.2.2)).Nodup ∧ (∀ x ∈ es, x.2.2 < clock) ∧ ∀ x ∈ es, shOk sh x.1 = true
  | .loop fn tm params asg body st pend dfr => ∃ r : Loop, w.heap[g.b]? = some (.loop r) ∧ r.state = stOf st ∧ st < 4 ∧ PendRel P ft fn pend r.pending ∧ r.fn = fn ∧
      TmRel ρ ft fn tm r.tmps ∧ r.params.toList = params ∧ CRel P ft fn asg r.assign ∧ CRel P ft fn body r.body ∧ (∃ gd, ρ dfr = some gd ∧ r.defers = gd.b) ∧
      (∀ fnn, P.funcs[fn]? = some fnn → fnn.ntmps ≤ r.tmps.size) ∧ (∀ df, ft.get fn = some df → ∀ t ∈ params, t < df.n)
  | .dfr => w.heap[g.b]? = some (.deferred (some []))
  | .miter m since seen stepped => g.d = 0 ∧ ∃ m', w.heap[g.b]? = some (.mapIter m' since seen.reverse.toArray stepped) ∧ (match m with
      | none => m' = none
      | some i => ∃ gm, ρ i = some gm ∧ m' = some gm.b)

def isRo : AO → Bool
  | .cells _ _ ro _ _ => ro
  | _ => false

structure Rel (P : Program) (ft : FT) (B : Nat) (w0 : World) (ρ : Rho) (h : T AO) (nx : Nat) (w : World) : Prop where
  obj : ∀ id o, h.get id = some o → ∃ g, ρ id = some g ∧ ORel P ft ρ w g o ∧ (isRo o = true ∨ B ≤ g.b)
  inj : ∀ i j oi oj gi gj, h.get i = some oi → h.get j = some oj → ρ i = some gi → ρ j = some gj → gi.b = gj.b → i = j
  dom : ∀ id g, ρ id = some g → id < nx ∧ g.b < w.heap.size
  glob : ∀ i, i < P.globals.size → ∃ g, ρ i = some g ∧ g.b = i ∧ g.d = 0
  base : B ≤ w.heap.size
  below : RowKit.Below B w0 w

end Go.Md
end
section
/- THE MODEL's SMALL OPERATIONS RUN: lemmas on types, cells, numbers of a kind. No condition. -/
namespace Go.Md
variable {P : Program} {w : World}

theorem run_und {t : TypeId} {d : TypeDesc} (h : P.underlying t = some d) : (underlying t).run P w = .ok d w := by
  simp [underlying, h]
theorem run_tinfo {t : TypeId} {i : TypeInfo} (h : P.info? t = some i) : (typeInfo t).run P w = .ok i w := by
  simp [typeInfo, h]
theorem szOf_some {t : TypeId} {n : Nat} (h : szOf P t = some n) : ∃ i, P.info? t = some i ∧ i.size = n := by
  unfold szOf at h
  cases hi : P.info? t with
  | none => simp [hi] at h
  | some i => simp [hi] at h; exact ⟨i, rfl, h⟩
theorem szOf_some' {t : TypeId} {i : TypeInfo} (h : P.info? t = some i) : szOf P t = some i.size := by simp [szOf, h]
theorem run_size {t : TypeId} {n : Nat} (h : szOf P t = some n) : (sizeOf t).run P w = .ok n w := by
  obtain ⟨i, hi, rfl⟩ := szOf_some h
  simp [sizeOf, run_tinfo hi]
theorem run_agg_t {t : TypeId} (h : isAgg? P t = true) : (isAgg t).run P w = .ok true w := by
  unfold isAgg? at h
  cases hu : P.underlying t with
  | none => simp [hu] at h
  | some d =>
    simp only [isAgg, Sem.run_bind, run_und hu, Result.andThen_ok]
    cases d <;> simp [hu] at h <;> simp
theorem run_agg_f {t : TypeId} {d : TypeDesc} (hu : P.underlying t = some d) (h : isAgg? P t = false) : (isAgg t).run P w = .ok false w := by
  unfold isAgg? at h
  simp only [isAgg, Sem.run_bind, run_und hu, Result.andThen_ok]
  cases d <;> simp [hu] at h <;> simp

theorem aconst1_rel {ρ : Rho} {v : Value} {a : AV} (h : aconst1 v = some a) : VRel ρ a v := by
  unfold aconst1 at h
  split at h <;> first | (cases h; rfl) | (cases h; done) | skip
  case h_3 s =>
    cases h
    refine ⟨packS_lt _, ?_⟩
    rw [unpackN_packS]
theorem aconsts_rel {ρ : Rho} : ∀ {l : List Value} {a : List AV}, aconsts l = some a → VRelL ρ a l
  | [], a, h => by cases h; rfl
  | v :: r, a, h => by
    simp only [aconsts] at h
    split at h <;> first | (cases h; done) | skip
    rename_i x y hx hy
    cases h
    exact ⟨v, r, rfl, aconst1_rel hx, aconsts_rel hy⟩
theorem aconst_rel {ρ : Rho} {v : Value} {a : AV} (h : aconst v = some a) : VRel ρ a v := by
  unfold aconst at h
  split at h
  · rename_i cs
    cases hl : aconsts cs.toList with
    | none => simp [hl] at h
    | some l =>
      simp [hl] at h
      subst h
      exact ⟨cs.toList, by simp, aconsts_rel hl⟩
  · exact aconst1_rel h

theorem zeroOf_rel {ρ : Rho} {t : TypeId} {a : AV} (h : zeroOf P t = some a) : ∃ z, (zeroValue t).run P w = .ok z w ∧ VRel ρ a z ∧ (∃ i, P.info? t = some i ∧ i.zero = some z) := by
  unfold zeroOf at h
  cases hi : P.info? t with
  | none => simp [hi] at h
  | some i =>
    cases hz : i.zero with
    | none => simp [hi, hz] at h
    | some z =>
      simp [hi, hz] at h
      exact ⟨z, by simp [zeroValue, run_tinfo hi, hz], aconst_rel h, i, rfl, hz⟩

/-! numbers of a kind -/
theorem kTop_pos (k : IntKind) : 0 < kTop k := by cases k <;> simp [kTop]
theorem wrap_small {k : IntKind} {a : Nat} (h : a < kTop k) : k.wrap (Int.ofNat a) = Int.ofNat a := by
  cases k <;> simp only [kTop] at h <;> simp only [IntKind.wrap, IntKind.bits, IntKind.signed] <;> simp <;> omega
theorem fwrap_eq (k : IntKind) (n : Int) : fwrap k n = k.wrap n := by
  cases n with
  | ofNat a =>
    simp only [fwrap]
    cases h : Nat.blt a (kTop k) with
    | false => rfl
    | true => exact (wrap_small (lt_of_blt h)).symm
  | negSucc a => rfl

end Go.Md
end
section
/- THE QUIET OPERATIONS: what 'qop' answers is what the model's operation answers, in any world that the heap of D is related to; and the world stays. No condition. -/
namespace Go.Md
variable {P : Program} {ft : FT} {B : Nat} {w0 w : World} {ρ : Rho} {h : T AO} {nx : Nat}

/-- an operation yields a value, and the world stays -/
def Yld (P : Program) (ρ : Rho) (w : World) (ev : Operand → Value) (o : Oper) (v : AV) : Prop :=
  ∃ u, (execOp ev o).run P w = .ok (.value u) w ∧ VRel ρ v u

theorem run_v {s : Sem Value} {u : Value} {w w' : World} (h : s.run P w = .ok u w') : ((do pure (Next.value (← s))) : Sem Next).run P w = .ok (.value u) w' := by
  simp [h]

theorem evConst {ev : Operand → Value} (he : ∀ c, ev (.const c) = c) (c : Value) : ev (.const c) = c := he c

/-! memory -/
theorem Rel.cells (R : Rel P ft B w0 ρ h nx w) {id n e : Nat} {l : T AV} {ro opn : Bool} (hg : h.get id = some (.cells l n ro opn e)) {g : Gh} (hρ : ρ id = some g) :
    ∃ arr el fz, w.heap[g.b]? = some (.cells arr el fz) ∧ arr.size = g.sz ∧ fzOk fz arr.size ∧ g.d + n ≤ g.sz ∧ g.e = e ∧
      ∀ j v, j < n → l.get j = some v → ∃ u, arr[g.d + j]? = some u ∧ VRel ρ v u := by
  obtain ⟨g', h1, h2, _⟩ := R.obj _ _ hg
  rw [hρ] at h1; cases h1; exact h2
theorem Rel.bytes (R : Rel P ft B w0 ρ h nx w) {id bits n : Nat} {opn : Bool} (hg : h.get id = some (.bytes bits n opn)) {g : Gh} (hρ : ρ id = some g) :
    ∃ arr el fz, w.heap[g.b]? = some (.cells arr el fz) ∧ arr.size = g.sz ∧ fzOk fz arr.size ∧ g.d + n ≤ g.sz ∧ g.e = 1 ∧
      ∀ j, j < n → arr[g.d + j]? = some (.int .u8 (byt bits j)) := by
  obtain ⟨g', h1, h2, _⟩ := R.obj _ _ hg
  rw [hρ] at h1; cases h1; exact h2
theorem Rel.map (R : Rel P ft B w0 ρ h nx w) {id c : Nat} {es : List (AV × AV × Nat)} {sh : KSh} (hg : h.get id = some (.map es c sh)) {g : Gh} (hρ : ρ id = some g) :
    ∃ ents l, w.heap[g.b]? = some (.map ents c) ∧ ents.toList.Perm l ∧ ERelL ρ es l ∧ (es.map (·.1)).Nodup ∧ (es.map (·.2.2)).Nodup ∧ (∀ x ∈ es, x.2.2 < c) ∧ ∀ x ∈ es, shOk sh x.1 = true := by
  obtain ⟨g', h1, h2, _⟩ := R.obj _ _ hg
  rw [hρ] at h1; cases h1; exact h2

theorem cell_of {b j : Nat} {arr : Array Value} {el : TypeId} {fz : Nat × Nat} (hb : w.heap[b]? = some (.cells arr el fz)) : w.cell? ⟨b, j, none⟩ = arr[j]? := cell_of_row w b j arr el fz hb

theorem load1_ok (R : Rel P ft B w0 ρ h nx w) {id off : Nat} {v : AV} (hl : load1 h id off = some v) {g : Gh} (hρ : ρ id = some g) :
    ∃ u, w.cell? ⟨g.b, g.d + off, none⟩ = some u ∧ VRel ρ v u := by
  unfold load1 at hl
  split at hl
  · rename_i l m _ _ _ hg
    obtain ⟨arr, el, fz, hb, _, _, _, _, hc⟩ := R.cells hg hρ
    split at hl
    · rename_i hlt
      obtain ⟨u, hu, hr⟩ := hc off v (lt_of_blt hlt) hl
      exact ⟨u, by rw [cell_of hb, hu], hr⟩
    · cases hl
  · rename_i bits m _ hg
    obtain ⟨arr, el, fz, hb, _, _, _, _, hc⟩ := R.bytes hg hρ
    split at hl
    · rename_i hlt
      cases hl
      exact ⟨Value.int .u8 (Int.ofNat (byt bits off)), by rw [cell_of hb, hc off (lt_of_blt hlt)]; rfl, rfl⟩
    · cases hl
  · cases hl

theorem readCells_len (l : T AV) : ∀ (n off : Nat) (vs : List AV), readCells l off n = some vs → vs.length = n ∧ ∀ j v, vs[j]? = some v → l.get (off + j) = some v
  | 0, off, vs, h => by cases h; exact ⟨rfl, fun j v hv => by simp at hv⟩
  | n + 1, off, vs, h => by
    simp only [readCells] at h
    split at h
    · rename_i v hv
      split at h
      · rename_i r hr
        cases h
        obtain ⟨h1, h2⟩ := readCells_len l n _ _ hr
        refine ⟨by simp [h1], fun j u hu => ?_⟩
        cases j with
        | zero => simp at hu; subst hu; exact hv
        | succ j =>
          have := h2 j u (by simpa using hu)
          rw [show Nat.add off 1 + j = off + (j + 1) from by show off + 1 + j = _; omega] at this
          exact this
      · cases h
    · cases h

theorem unpackAV_len : ∀ (n bits : Nat), (unpackAV bits n).length = n
  | 0, _ => rfl
  | n + 1, bits => by simp [unpackAV, unpackAV_len n]
theorem unpackAV_get : ∀ (n bits j : Nat) v, (unpackAV bits n)[j]? = some v → j < n ∧ v = .int .u8 (.ofNat (byt bits j))
  | 0, _, j, v, h => by simp [unpackAV] at h
  | n + 1, bits, j, v, h => by
    cases j with
    | zero => simp [unpackAV] at h; exact ⟨by omega, by rw [← h, byt_zero]; rfl⟩
    | succ j =>
      simp only [unpackAV, List.getElem?_cons_succ] at h
      obtain ⟨h1, h2⟩ := unpackAV_get n _ j v h
      exact ⟨by omega, by rw [h2, byt_succ]; rfl⟩

theorem loadCells_ok (R : Rel P ft B w0 ρ h nx w) {id off n : Nat} {vs : List AV} (hl : loadCells h id off n = some vs) {g : Gh} (hρ : ρ id = some g) :
    ∃ us, VRelL ρ vs us ∧ us.length = n ∧ (∀ j u, us[j]? = some u → w.cell? ⟨g.b, g.d + off + j, none⟩ = some u) := by
  unfold loadCells at hl
  have key : ∀ (arr : Array Value) (el : TypeId) (fz : Nat × Nat), w.heap[g.b]? = some (.cells arr el fz) → vs.length = n →
      (∀ j v, vs[j]? = some v → ∃ u, arr[g.d + off + j]? = some u ∧ VRel ρ v u) →
      ∃ us, VRelL ρ vs us ∧ us.length = n ∧ (∀ j u, us[j]? = some u → w.cell? ⟨g.b, g.d + off + j, none⟩ = some u) := by
    intro arr el fz hb hlen hall
    refine ⟨(List.range n).map fun j => arr.getD (g.d + off + j) undef, ?_, by simp, ?_⟩
    · refine VRelL.of_get (by simp [hlen]) fun j v u hv hu => ?_
      obtain ⟨u', hu', hr⟩ := hall j v hv
      have hj : j < n := by rw [← hlen]; exact (List.getElem?_eq_some_iff.1 hv).1
      simp [hj] at hu
      rw [hu'] at hu
      simp at hu; subst hu; exact hr
    · intro j u hu
      have hj : j < n := by have := (List.getElem?_eq_some_iff.1 hu).1; simpa using this
      obtain ⟨u', hu', _⟩ := hall j _ (List.getElem?_eq_getElem (by omega))
      simp [hj, hu'] at hu
      rw [cell_of hb, hu', hu]
  split at hl
  · rename_i l m _ _ _ hg
    obtain ⟨arr, el, fz, hb, _, _, _, _, hc⟩ := R.cells hg hρ
    split at hl
    · rename_i hle
      obtain ⟨h1, h2⟩ := readCells_len _ _ _ _ hl
      refine key arr el fz hb h1 fun j v hv => ?_
      have hj : j < n := by rw [← h1]; exact (List.getElem?_eq_some_iff.1 hv).1
      have := le_of_ble hle
      have e : Nat.add off n = off + n := rfl
      obtain ⟨u, hu, hr⟩ := hc (off + j) v (by omega) (h2 j v hv)
      exact ⟨u, by rw [show g.d + off + j = g.d + (off + j) from by omega, hu], hr⟩
    · cases hl
  · rename_i bits m _ hg
    obtain ⟨arr, el, fz, hb, _, _, _, _, hc⟩ := R.bytes hg hρ
    split at hl
    · rename_i hle
      cases hl
      refine key arr el fz hb (unpackAV_len _ _) fun j v hv => ?_
      obtain ⟨h1, h2⟩ := unpackAV_get _ _ _ _ hv
      have := le_of_ble hle
      have e : Nat.add off n = off + n := rfl
      subst h2
      refine ⟨_, by rw [show g.d + off + j = g.d + (off + j) from by omega, hc (off + j) (by omega)], ?_⟩
      have e2 : byt (bits / 256 ^ off) j = byt bits (off + j) := by
        rw [byt_def, byt_def, Nat.div_div_eq_div_mul, ← Nat.pow_add]
      exact congrArg (fun x : Nat => Value.int .u8 (x : Int)) e2.symm
    · cases hl
  · cases hl

theorem run_loadCells_at {b o : Nat} {us : List Value} (hc : ∀ j u, us[j]? = some u → w.cell? ⟨b, o + j, none⟩ = some u) :
    (Go.loadCells ⟨b, o, none⟩ us.length).run P w = .ok us.toArray w :=
  run_loadCells_list w _ us fun j u hu => by
    have := hc j u hu
    unfold Addr.add
    split
    · rename_i h0; subst h0; simpa using this
    · exact this

/-! equality -/
theorem bEq_eq (x y : Bool) : bEq x y = (x == y) := by cases x <;> cases y <;> rfl
theorem sEq_iff {a n b m : Nat} : sEq a n b m = true ↔ a = b ∧ n = m := by
  unfold sEq
  cases h : Nat.beq a b with
  | true => simp [eq_of_beq' h]
  | false => simp [ne_of_beq' h]
theorem bool_of_iff {b : Bool} {p : Prop} [Decidable p] (h : b = true ↔ p) : b = decide p := by
  cases b <;> simp_all
theorem iEq_eq (a b : Int) : iEq a b = (a == b) := by rw [bool_of_iff (iEq_iff a b)]; by_cases h : a = b <;> simp [h]
theorem iLt_eq (a b : Int) : iLt a b = decide (a < b) := bool_of_iff (iLt_iff a b)

theorem str_list {bits len : Nat} : (⟨(unpackN bits len).toArray⟩ : ByteArray).toList = unpackN bits len := by
  exact ByteArray.toList_mk _

end Go.Md
end
section
/- THE QUIET OPERATIONS, the first half: arithmetic, comparisons, conversions. No condition. -/
namespace Go.Md
variable {P : Program} {ft : FT} {B : Nat} {w0 w : World} {ρ : Rho} {h : T AO} {nx : Nat}

theorem kBits_eq (k : IntKind) : kBits k = k.bits := by cases k <;> rfl
theorem inTop_iff {k : IntKind} {a b : Nat} (h : inTop k a b = true) : a < kTop k ∧ b < kTop k := by
  unfold inTop at h
  split at h
  · rename_i h1; exact ⟨lt_of_blt h1, lt_of_blt h⟩
  · cases h
theorem kTop_le (k : IntKind) : kTop k ≤ 2 ^ k.bits := by cases k <;> simp [kTop, IntKind.bits]
theorem kTop_pow (k : IntKind) : ∃ m, kTop k = 2 ^ m ∧ m ≤ k.bits := by
  cases k
  · exact ⟨7, rfl, by decide⟩
  · exact ⟨15, rfl, by decide⟩
  · exact ⟨31, rfl, by decide⟩
  · exact ⟨63, rfl, by decide⟩
  · exact ⟨8, rfl, by decide⟩
  · exact ⟨16, rfl, by decide⟩
  · exact ⟨32, rfl, by decide⟩
  · exact ⟨64, rfl, by decide⟩

theorem bits_back {k : IntKind} {a b : Nat} (ha : a < kTop k) (hb : b < kTop k) (f : Nat → Nat → Nat) (g : BitVec k.bits → BitVec k.bits → BitVec k.bits)
    (hfg : ∀ x y, (g x y).toNat = f x.toNat y.toNat) (hlt : ∀ m, a < 2 ^ m → b < 2 ^ m → f a b < 2 ^ m) :
    k.wrap (g (BitVec.ofInt k.bits (Int.ofNat a)) (BitVec.ofInt k.bits (Int.ofNat b))).toNat = Int.ofNat (f a b) := by
  have h1 : (BitVec.ofInt k.bits (Int.ofNat a)).toNat = a := by
    rw [BitVec.toNat_ofInt]
    have := Nat.lt_of_lt_of_le ha (kTop_le k)
    have e : (Int.ofNat a : Int) % (2 ^ k.bits : Nat) = a := Int.emod_eq_of_lt (Int.natCast_nonneg a) (Int.ofNat_lt.2 this)
    rw [e]; simp
  have h2 : (BitVec.ofInt k.bits (Int.ofNat b)).toNat = b := by
    rw [BitVec.toNat_ofInt]
    have := Nat.lt_of_lt_of_le hb (kTop_le k)
    have e : (Int.ofNat b : Int) % (2 ^ k.bits : Nat) = b := Int.emod_eq_of_lt (Int.natCast_nonneg b) (Int.ofNat_lt.2 this)
    rw [e]; simp
  rw [hfg, h1, h2]
  obtain ⟨m, hm, _⟩ := kTop_pow k
  refine wrap_small ?_
  rw [hm] at ha hb ⊢
  exact hlt m ha hb

theorem intBin_ok {op : BinOp} {k : IntKind} {x y : Int} {v : AV} (t : TypeId) (hb : intBin op k x y = some v) :
    ∃ u, (binOp op t (.int k x) (.int k y)).run P w = .ok u w ∧ VRel ρ v u := by
  have hk : ¬ (k ≠ k) := fun h => h rfl
  cases op <;> simp only [intBin] at hb
  case add => cases hb; exact ⟨.int k (k.wrap (x + y)), by simp [binOp, Op.intArith], by simp only [VRel, fwrap_eq]; rfl⟩
  case sub => cases hb; exact ⟨.int k (k.wrap (x - y)), by simp [binOp, Op.intArith], by simp only [VRel, fwrap_eq]; rfl⟩
  case mul => cases hb; exact ⟨.int k (k.wrap (x * y)), by simp [binOp, Op.intArith], by simp only [VRel, fwrap_eq]; rfl⟩
  case quo =>
    split at hb
    · cases hb
    · rename_i h0
      cases hb
      have hy : ¬ y = 0 := fun e => by rw [(iEq_iff y 0).2 e] at h0; cases h0
      exact ⟨.int k (k.wrap (x.tdiv y)), by simp [binOp, Op.intDiv, hy], by simp only [VRel, fwrap_eq]⟩
  case rem =>
    split at hb
    · cases hb
    · rename_i h0
      cases hb
      have hy : ¬ y = 0 := fun e => by rw [(iEq_iff y 0).2 e] at h0; cases h0
      exact ⟨.int k (x.tmod y), by simp [binOp, Op.intDiv, hy], rfl⟩
  case and =>
    split at hb
    · split at hb
      · rename_i a b ht
        cases hb
        obtain ⟨h1, h2⟩ := inTop_iff ht
        refine ⟨_, by simp only [binOp, Op.intBits, if_neg hk]; rfl, ?_⟩
        show Value.int k _ = Value.int k _
        congr 1
        exact bits_back h1 h2 Nat.land (· &&& ·) (fun x y => BitVec.toNat_and x y) (fun m h1 _ => Nat.lt_of_le_of_lt (Nat.and_le_left) h1)
      · cases hb
    · cases hb
  case or =>
    split at hb
    · split at hb
      · rename_i a b ht
        cases hb
        obtain ⟨h1, h2⟩ := inTop_iff ht
        refine ⟨_, by simp only [binOp, Op.intBits, if_neg hk]; rfl, ?_⟩
        show Value.int k _ = Value.int k _
        congr 1
        exact bits_back h1 h2 Nat.lor (· ||| ·) (fun x y => BitVec.toNat_or x y) (fun m h1 h2 => Nat.or_lt_two_pow h1 h2)
      · cases hb
    · cases hb
  case xor =>
    split at hb
    · split at hb
      · rename_i a b ht
        cases hb
        obtain ⟨h1, h2⟩ := inTop_iff ht
        refine ⟨_, by simp only [binOp, Op.intBits, if_neg hk]; rfl, ?_⟩
        show Value.int k _ = Value.int k _
        congr 1
        exact bits_back h1 h2 Nat.xor (· ^^^ ·) (fun x y => BitVec.toNat_xor x y) (fun m h1 h2 => Nat.xor_lt_two_pow h1 h2)
      · cases hb
    · cases hb
  case eql => cases hb; exact ⟨.bool (x == y), by simp [binOp, Op.intCmp], by simp [VRel, iEq_eq]⟩
  case neq => cases hb; exact ⟨.bool (x != y), by simp [binOp, Op.intCmp], by simp [VRel, iEq_eq]; rfl⟩
  case lss => cases hb; exact ⟨.bool (decide (x < y)), by simp [binOp, Op.intCmp], by simp [VRel, iLt_eq]⟩
  case leq => cases hb; exact ⟨.bool (decide (x ≤ y)), by simp [binOp, Op.intCmp], by simp only [VRel, iLt_eq]; congr 1; by_cases h : x ≤ y <;> simp [h] <;> omega⟩
  case gtr => cases hb; exact ⟨.bool (decide (y < x)), by simp [binOp, Op.intCmp], by simp [VRel, iLt_eq]⟩
  case geq => cases hb; exact ⟨.bool (decide (y ≤ x)), by simp [binOp, Op.intCmp], by simp only [VRel, iLt_eq]; congr 1; by_cases h : y ≤ x <;> simp [h] <;> omega⟩
  all_goals cases hb

theorem shiftBin_ok {op : BinOp} {k k' : IntKind} {x y : Int} {v : AV} (t : TypeId) (hb : shiftBin op k x y = some v) :
    ∃ u, (binOp op t (.int k x) (.int k' y)).run P w = .ok u w ∧ VRel ρ v u := by
  unfold shiftBin at hb
  split at hb
  · rename_i a n
    have hn : ¬ ((Int.ofNat n : Int) < 0) := by simp
    split at hb
    · cases hb
      refine ⟨_, by simp only [binOp, Op.shift, if_neg hn]; rfl, ?_⟩
      simp only [VRel, fwrap_eq, kBits_eq]
      congr 2
    · cases hb
      refine ⟨_, by simp only [binOp, Op.shift, if_neg hn]; rfl, ?_⟩
      simp only [VRel, kBits_eq]
      congr 1
      show (Int.ofNat a : Int).fdiv (2 ^ (min (Int.ofNat n).toNat k.bits)) = Int.ofNat (a / 2 ^ (min n k.bits))
      have e : ((2 : Int) ^ (min (Int.ofNat n).toNat k.bits)) = Int.ofNat (2 ^ (min n k.bits)) := by simp
      rw [e, Int.fdiv_eq_ediv_of_nonneg (b := Int.ofNat (2 ^ min n k.bits)) _ (Int.natCast_nonneg _)]
      rfl
    · cases hb
  · cases hb

theorem strEq_eq {a n b m : Nat} (ha : a < 256 ^ n) (hb : b < 256 ^ m) : sEq a n b m = (unpackN a n == unpackN b m) := by
  by_cases h : n = m
  · subst h
    by_cases e : a = b
    · subst e; simp [sEq]
    · have h1 : sEq a n b n = false := by unfold sEq; cases h : Nat.beq a b with
        | true => exact absurd (eq_of_beq' h) e
        | false => rfl
      have h2 : unpackN a n ≠ unpackN b n := fun hh => e (unpackN_inj ha hb hh)
      simp [h1, h2]
  · have h1 : sEq a n b m = false := by
      cases hs : sEq a n b m with
      | false => rfl
      | true => exact absurd (sEq_iff.1 hs).2 h
    have h2 : unpackN a n ≠ unpackN b m := fun hh => h (by have := congrArg List.length hh; simpa [unpackN_length] using this)
    simp [h1, h2]

theorem strBin_ok {op : BinOp} {a n b m : Nat} {v : AV} (t : TypeId) (ha : a < 256 ^ n) (hb' : b < 256 ^ m) (hb : strBin op a n b m = some v) :
    ∃ u, (binOp op t (.string ⟨(unpackN a n).toArray⟩) (.string ⟨(unpackN b m).toArray⟩)).run P w = .ok u w ∧ VRel ρ v u := by
  have e1 : ∀ x y : Nat, strLt (Nat.add x 1) y x = strLt (x + 1) y x := fun _ _ => rfl
  have l1 : strLt (n + 1) a n b m = Op.bytesLess (unpackN a n) (unpackN b m) := unpackN_lt (by omega)
  have l2 : strLt (m + 1) b m a n = Op.bytesLess (unpackN b m) (unpackN a n) := unpackN_lt (by omega)
  have tot : ∀ x y : List UInt8, (!Op.bytesLess y x) = (Op.bytesLess x y || x == y) := by
    intro x
    induction x with
    | nil => intro y; cases y <;> simp [Op.bytesLess]
    | cons c x ih =>
      intro y
      cases y with
      | nil => simp [Op.bytesLess]
      | cons d y =>
        simp only [Op.bytesLess]
        have := ih y
        by_cases h1 : c < d
        · have h2 : ¬ d < c := by rw [UInt8.lt_iff_toNat_lt] at *; omega
          have h3 : ¬ d = c := fun e => by subst e; exact h2 h1
          simp [h1, h2, h3]
        · by_cases h2 : d < c
          · have h3 : ¬ c = d := fun e => by subst e; exact h1 h2
            simp [h1, h2, h3]
          · have h3 : c = d := by
              apply UInt8.toNat_inj.1
              rw [UInt8.lt_iff_toNat_lt] at h1 h2; omega
            subst h3
            simp only [h1, decide_false, Bool.false_or, beq_self_eq_true, Bool.true_and]
            rw [this]
            simp
  cases op <;> simp only [strBin] at hb
  case add =>
    split at hb
    · rename_i hlt
      cases hb
      have hs := lt_of_blt hlt
      have e : Nat.add n m = n + m := rfl
      refine ⟨.string (⟨(unpackN a n).toArray⟩ ++ ⟨(unpackN b m).toArray⟩), ?_, ?_⟩
      · simp only [binOp, Op.stringOp]
        have hsz : ¬ (((ByteArray.mk (unpackN a n).toArray).size + (ByteArray.mk (unpackN b m).toArray).size : Nat) : Int) > IntKind.i64.max := by
          simp [ByteArray.size, unpackN_length, IntKind.max, IntKind.bits, IntKind.signed]
          omega
        rw [if_neg hsz]; rfl
      · refine ⟨catB_lt ha hb', ?_⟩
        rw [e, unpackN_cat ha]
        congr 1
    · cases hb
  case eql => cases hb; exact ⟨_, by simp [binOp, Op.stringOp]; rfl, by simp [VRel, strEq_eq ha hb']⟩
  case neq => cases hb; exact ⟨_, by simp [binOp, Op.stringOp]; rfl, by simp [VRel, strEq_eq ha hb']⟩
  case lss => cases hb; exact ⟨_, by simp [binOp, Op.stringOp]; rfl, by show _ = Value.bool _; rw [show strLt (Nat.add n 1) a n b m = _ from l1]⟩
  case gtr =>
    cases hb
    refine ⟨.bool (!(Op.bytesLess (unpackN a n) (unpackN b m) || unpackN a n == unpackN b m)), by simp [binOp, Op.stringOp], ?_⟩
    show _ = Value.bool _
    rw [show strLt (Nat.add m 1) b m a n = _ from l2, ← tot]; simp
  case leq => cases hb; exact ⟨_, by simp [binOp, Op.stringOp]; rfl, by show _ = Value.bool _; rw [show strLt (Nat.add m 1) b m a n = _ from l2]; congr 1; exact (tot _ _).symm⟩
  case geq => cases hb; exact ⟨_, by simp [binOp, Op.stringOp]; rfl, by show _ = Value.bool _; rw [show strLt (Nat.add n 1) a n b m = _ from l1]⟩
  all_goals cases hb

theorem eqGuard_int (op : BinOp) (t : TypeId) (x y : Operand) (k k' : IntKind) (a b : Int) : (eqGuard op t x y (.int k a) (.int k' b)).run P w = .ok () w := by
  simp only [eqGuard]
  split <;> rfl
theorem eqGuard_str (op : BinOp) (t : TypeId) (x y : Operand) (a b : ByteArray) : (eqGuard op t x y (.string a) (.string b)).run P w = .ok () w := by
  simp only [eqGuard]
  split <;> rfl

theorem bin_ok {op : BinOp} {x y v : AV} {u t : Value} (ty : TypeId) (hb : bin op x y = some v) (hx : VRel ρ x u) (hy : VRel ρ y t) (X Y : Operand) :
    ∃ r, ((do eqGuard op ty X Y u t; binOp op ty u t) : Sem Value).run P w = .ok r w ∧ VRel ρ v r := by
  unfold bin at hb
  split at hb
  · rename_i k x k' y
    cases hx; cases hy
    have key : ∀ r, (binOp op ty (.int k x) (.int k' y)).run P w = .ok r w → ((do eqGuard op ty X Y (.int k x) (.int k' y); binOp op ty (.int k x) (.int k' y)) : Sem Value).run P w = .ok r w := by
      intro r hr; simp [eqGuard_int, hr]
    split at hb
    · obtain ⟨r, h1, h2⟩ := shiftBin_ok (P := P) (w := w) (ρ := ρ) (k' := k') ty hb; exact ⟨r, key r h1, h2⟩
    · obtain ⟨r, h1, h2⟩ := shiftBin_ok (P := P) (w := w) (ρ := ρ) (k' := k') ty hb; exact ⟨r, key r h1, h2⟩
    · split at hb
      · rename_i hk
        have := (kEq_iff k k').1 hk
        subst this
        obtain ⟨r, h1, h2⟩ := intBin_ok (P := P) (w := w) (ρ := ρ) ty hb; exact ⟨r, key r h1, h2⟩
      · cases hb
  · rename_i a n b m
    obtain ⟨ha, rfl⟩ := hx
    obtain ⟨hb', rfl⟩ := hy
    obtain ⟨r, h1, h2⟩ := strBin_ok (P := P) (w := w) (ρ := ρ) ty ha hb' hb
    exact ⟨r, by simp [eqGuard_str, h1], h2⟩
  · cases hb
end Go.Md
end
section
/- THE QUIET OPERATIONS, the second half: equality, conversions, structs, memory, slices, maps. No condition. -/
namespace Go.Md
variable {P : Program} {ft : FT} {B : Nat} {w0 w : World} {ρ : Rho} {h : T AO} {nx : Nat}

/-! shapes -/
theorem ksOk_int {k : IntKind} {v : AV} (h : ksOk (.int k) v = true) : ∃ n, v = .int k n := by
  cases v <;> simp [ksOk] at h
  rename_i k' n
  exact ⟨n, by rw [(kEq_iff k k').1 h]⟩
theorem ksOk_str {v : AV} (h : ksOk .str v = true) : ∃ b n, v = .str b n := by
  cases v <;> simp [ksOk] at h
  exact ⟨_, _, rfl⟩
theorem ksOk_bool {v : AV} (h : ksOk .bool v = true) : ∃ b, v = .bool b := by
  cases v <;> simp [ksOk] at h
  exact ⟨_, rfl⟩
theorem ksT_und {t : TypeId} {k : KS} (hk : ksT P t = some k) : szOf P t = some 1 ∧ (match k with
    | .int i => P.underlying t = some (.int i)
    | .str => P.underlying t = some .string
    | .bool => P.underlying t = some .bool) := by
  unfold ksT at hk
  split at hk
  · rename_i hs
    refine ⟨by simpa using hs, ?_⟩
    split at hk <;> first | (cases hk; assumption) | (cases hk; done)
  · cases hk
theorem ksT_notAgg {t : TypeId} {k : KS} (hk : ksT P t = some k) : isAgg? P t = false := by
  have := (ksT_und hk).2
  unfold isAgg?
  cases k <;> simp at this <;> simp [this]

/-- cells of one shape are equal as Go has it iff they are one -/
theorem equalIn_cell {k : KS} {t : TypeId} (hk : ksT P t = some k) {x y : AV} {u v : Value} (hx : VRel ρ x u) (hy : VRel ρ y v) (ox : ksOk k x = true) (oy : ksOk k y = true) (d : Nat) :
    (Op.equalIn (d + 1) t u v).run P w = .ok (AV.beq x y) w := by
  have hu := (ksT_und hk).2
  cases k with
  | int k =>
    obtain ⟨n, rfl⟩ := ksOk_int ox
    obtain ⟨m, rfl⟩ := ksOk_int oy
    cases hx; cases hy
    rw [run_equalIn_int w d t k k n m hu]
    have : AV.beq (.int k n) (.int k m) = (n == m) := by
      have h1 := (kEq_iff k k).2 rfl
      simp only [AV.beq, brec_and, h1, Bool.true_and, iEq_eq]
    rw [this]
  | str =>
    obtain ⟨a, n, rfl⟩ := ksOk_str ox
    obtain ⟨b, m, rfl⟩ := ksOk_str oy
    obtain ⟨ha, rfl⟩ := hx
    obtain ⟨hb, rfl⟩ := hy
    rw [run_equalIn_string w d t _ _ hu, str_list, str_list, ← strEq_eq ha hb]
    congr 1
    have : AV.beq (.str a n) (.str b m) = (Nat.beq a b && Nat.beq n m) := by simp only [AV.beq, brec_and]
    rw [this]
    unfold sEq
    cases Nat.beq a b <;> rfl
  | bool =>
    obtain ⟨a, rfl⟩ := ksOk_bool ox
    obtain ⟨b, rfl⟩ := ksOk_bool oy
    cases hx; cases hy
    rw [run_equalIn_bool' w d t _ _ hu]
    simp only [AV.beq, brec_eq]

/-- the fields of a flat struct -/
theorem flatFields_spec : ∀ (fs : List Field) (n : Nat) (l : List KS), flatFields P n fs = some l →
    l.length = fs.length ∧ ∀ i f, fs[i]? = some f → f.offset = n + i ∧ f.name ≠ "_" ∧ ∃ k, l[i]? = some k ∧ ksT P f.type = some k
  | [], n, l, h => by cases h; exact ⟨rfl, fun i f hf => by simp at hf⟩
  | f :: r, n, l, h => by
    simp only [flatFields] at h
    split at h
    · rename_i hc
      simp only [Bool.and_eq_true, beq_iff_eq, bne_iff_ne] at hc
      split at h
      · rename_i k l' hk hl
        cases h
        obtain ⟨h1, h2⟩ := flatFields_spec r (n + 1) l' hl
        refine ⟨by simp [h1], fun i f' hf => ?_⟩
        cases i with
        | zero => simp at hf; subst hf; exact ⟨hc.1, hc.2, k, rfl, hk⟩
        | succ i =>
          obtain ⟨a, b, k', c, d⟩ := h2 i f' (by simpa using hf)
          exact ⟨by omega, b, k', by simpa using c, d⟩
      · cases h
    · cases h

theorem ksOkL_spec : ∀ (l : List KS) (m : List AV), ksOkL l m = true → m.length = l.length ∧ ∀ (i : Nat) k v, l[i]? = some k → m[i]? = some v → ksOk k v = true
  | [], [], _ => ⟨rfl, fun i k v h => by simp at h⟩
  | [], _ :: _, h => by simp [ksOkL] at h
  | _ :: _, [], h => by simp [ksOkL] at h
  | k :: l, v :: m, h => by
    simp only [ksOkL] at h
    split at h
    · rename_i h0
      obtain ⟨h1, h2⟩ := ksOkL_spec l m h
      refine ⟨by simp [h1], fun i k' v' hk hv => ?_⟩
      cases i with
      | zero => simp at hk hv; subst hk; subst hv; exact h0
      | succ i => exact h2 i k' v' (by simpa using hk) (by simpa using hv)
    · cases h

theorem run_part_cell {t : TypeId} {k : KS} (hk : ksT P t = some k) {cs : Array Value} {i : Nat} {v : Value} (hv : cs[i]? = some v) : (part t cs i).run P w = .ok v w := by
  have hn := ksT_notAgg hk
  have hu := (ksT_und hk).2
  have : ∃ d, P.underlying t = some d := by cases k <;> exact ⟨_, hu⟩
  obtain ⟨d, hd⟩ := this
  simp [part, run_agg_f hd hn, hv]

/-- fields from n on: equal iff the cells from n on are -/
theorem eqFields_flat (d : Nat) : ∀ (fs : List Field) (n : Nat) (l : List KS), flatFields P n fs = some l → ∀ (x y : List AV) (a b : List Value), ksOkL l x = true → ksOkL l y = true →
    VRelL ρ x a → VRelL ρ y b → ∀ (A B : Array Value), (∀ i v, a[i]? = some v → A[n + i]? = some v) → (∀ i v, b[i]? = some v → B[n + i]? = some v) →
    (Op.eqFields (d + 1) A B fs).run P w = .ok (AV.beqL x y) w
  | [], n, l, hf, x, y, a, b, hx, hy, ra, rb, A, Bv, hA, hB => by
    cases hf
    have : x = [] := by cases x <;> simp [ksOkL] at hx; rfl
    subst this
    have : y = [] := by cases y <;> simp [ksOkL] at hy; rfl
    subst this
    rfl
  | f :: r, n, l, hf, x, y, a, b, hx, hy, ra, rb, A, Bv, hA, hB => by
    have hs := flatFields_spec _ _ _ hf
    simp only [flatFields] at hf
    split at hf
    · rename_i hc
      split at hf
      · rename_i k l' hk hl
        cases hf
        cases x with
        | nil => simp [ksOkL] at hx
        | cons x0 x =>
        cases y with
        | nil => simp [ksOkL] at hy
        | cons y0 y =>
        obtain ⟨u, a', rfl, hu, ra'⟩ := ra
        obtain ⟨v, b', rfl, hv, rb'⟩ := rb
        simp only [Bool.and_eq_true, beq_iff_eq, bne_iff_ne] at hc
        obtain ⟨ho, hn⟩ := hc
        have hx0 : ksOk k x0 = true := by simp only [ksOkL] at hx; split at hx <;> first | assumption | cases hx
        have hy0 : ksOk k y0 = true := by simp only [ksOkL] at hy; split at hy <;> first | assumption | cases hy
        have hx1 : ksOkL l' x = true := by simp only [ksOkL, hx0] at hx; exact hx
        have hy1 : ksOkL l' y = true := by simp only [ksOkL, hy0] at hy; exact hy
        have hA0 : A[f.offset]? = some u := by rw [ho]; exact hA 0 u rfl
        have hB0 : Bv[f.offset]? = some v := by rw [ho]; exact hB 0 v rfl
        have e := equalIn_cell (P := P) (w := w) hk hu hv hx0 hy0 d
        simp only [Op.eqFields, ne_eq, hn, not_false_eq_true, if_true, Sem.run_bind, run_part_cell hk hA0, run_part_cell hk hB0, Result.andThen_ok, e]
        have ih := eqFields_flat d r (n + 1) l' hl x y a' b' hx1 hy1 ra' rb' A Bv (fun i w hw => by rw [Nat.add_right_comm, Nat.add_assoc]; exact hA (i + 1) w (by simpa using hw)) (fun i w hw => by rw [Nat.add_right_comm, Nat.add_assoc]; exact hB (i + 1) w (by simpa using hw))
        simp only [AV.beqL, brec_and]
        cases AV.beq x0 y0 with
        | true => simpa using ih
        | false => simp
      · cases hf
    · cases hf

theorem flatStruct_spec {t : TypeId} {l : List KS} (hf : flatStruct P t = some l) : ∃ fs, P.underlying t = some (.struct fs) ∧ P.stoodInHeld t = false ∧ P.eqGuardType P.depth t = false ∧ flatFields P 0 fs.toList = some l := by
  unfold flatStruct at hf
  split at hf
  · rename_i fs hu
    split at hf
    · rename_i hc
      simp only [Bool.and_eq_true, Bool.not_eq_true'] at hc
      exact ⟨fs, hu, hc.1, hc.2, hf⟩
    · cases hf
  · cases hf

theorem equalIn_struct {t : TypeId} {l : List KS} (hf : flatStruct P t = some l) {x y : List AV} {a b : List Value} (hx : ksOkL l x = true) (hy : ksOkL l y = true) (ra : VRelL ρ x a) (rb : VRelL ρ y b) (d : Nat) :
    (Op.equalIn (d + 2) t (.agg a.toArray) (.agg b.toArray)).run P w = .ok (AV.beqL x y) w := by
  obtain ⟨fs, hu, hs, _, hl⟩ := flatStruct_spec hf
  have hfo : P.fieldsOf t = fs := by simp [Program.fieldsOf, hu]
  rw [run_equalIn_struct w (d + 1) t _ _ (by rw [hfo]; exact hu) hs, hfo]
  exact eqFields_flat d fs.toList 0 l hl x y a b hx hy ra rb _ _ (fun i v hv => by simpa using hv) (fun i v hv => by simpa using hv)

end Go.Md
end
