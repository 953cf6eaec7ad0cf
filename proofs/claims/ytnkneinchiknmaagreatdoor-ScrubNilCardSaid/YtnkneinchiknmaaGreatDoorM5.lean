import Derived.Test.YtnkneinchiknmaaGreatDoorM4
set_option linter.unusedVariables false
set_option linter.unusedSimpArgs false
set_option linter.unusedSectionVars false
section
/- THE QUIET OPERATIONS, one by one: numbers, texts, structs, slices. No condition. -/
namespace Go.Md
variable {P : Program} {ft : FT} {B : Nat} {w0 w : World} {ρ : Rho} {h : T AO} {nx : Nat}

theorem un_ok {op : UnOp} {vs : List AV} {v : AV} (hq : qUn op vs h = some v) {us : List Value} (hv : VRelL ρ vs us) : ∃ x u, us = [x] ∧ (Op.unary op x).run P w = .ok u w ∧ VRel ρ v u := by
  unfold qUn at hq
  split at hq
  · obtain ⟨x, rfl, hx⟩ := VRelL.one hv
    cases hx
    split at hq
    · cases hq; exact ⟨_, _, rfl, rfl, rfl⟩
    · cases hq
  · rename_i k n
    obtain ⟨x, rfl, hx⟩ := VRelL.one hv
    cases hx
    split at hq
    · cases hq
      refine ⟨_, .int k (k.wrap (0 - n)), rfl, by simp [Op.unary, Op.intArith], ?_⟩
      simp only [VRel, fwrap_eq]; rfl
    · split at hq
      · rename_i n hs
        split at hq
        · rename_i hlt
          cases hq
          have h2 := lt_of_blt hlt
          have h1 : kTop k - 1 < kTop k := by have := kTop_pos k; omega
          have hmax : k.max = Int.ofNat (kTop k - 1) := by cases k <;> simp [IntKind.signed] at hs <;> rfl
          refine ⟨_, .int k _, rfl, by simp only [Op.unary, Op.intBits, hs]; rfl, ?_⟩
          show Value.int k _ = Value.int k _
          congr 1
          simp only [Bool.false_eq_true, if_false, hmax]
          exact bits_back h1 h2 Nat.xor (· ^^^ ·) (fun x y => BitVec.toNat_xor x y) (fun m h1 h2 => Nat.xor_lt_two_pow h1 h2)
        · cases hq
      · cases hq
    · cases hq
  · cases hq

theorem conv_ok {k : IntKind} {vs : List AV} {v : AV} (hq : qConv k vs h = some v) {us : List Value} (hv : VRelL ρ vs us) {s d : TypeId} {sk : IntKind} (hs : P.underlying s = some (.int sk)) (hd : P.underlying d = some (.int k)) :
    ∃ x u, us = [x] ∧ (convert s d x).run P w = .ok u w ∧ VRel ρ v u := by
  unfold qConv at hq
  split at hq
  · rename_i k1 n1
    obtain ⟨x, rfl, hx⟩ := VRelL.one hv
    cases hx; cases hq
    refine ⟨_, .int k (k.wrap n1), rfl, ?_, by simp only [VRel, fwrap_eq]⟩
    simp [convert, run_und hs, run_und hd, Conv.intToInt]
  · cases hq

theorem foldl_push : ∀ (l : List UInt8) (s : ByteArray), (l.map fun b => (Int.ofNat b.toNat)).foldl (fun r n => r.push (UInt8.ofNat n.toNat)) s = ⟨(s.data.toList ++ l).toArray⟩
  | [], s => by simp
  | b :: l, s => by
    simp only [List.map_cons, List.foldl_cons]
    rw [foldl_push l]
    congr 2
    simp [ByteArray.push]

theorem b2s_ok (R : Rel P ft B w0 ρ h nx w) {vs : List AV} {v : AV} (hq : qB2s vs h = some v) {us : List Value} (hv : VRelL ρ vs us) {s d e : TypeId} (hs : P.underlying s = some (.slice e)) (hd : P.underlying d = some .string) (he : isU8 P e = true) :
    ∃ x u, us = [x] ∧ (convert s d x).run P w = .ok u w ∧ VRel ρ v u := by
  have hue : P.underlying e = some (.int .u8) := by
    unfold isU8 at he
    split at he <;> first | assumption | cases he
  have hconv : ∀ a n c, (convert s d (.slice a n c)).run P w = (Conv.bytesToString (.slice a n c)).run P w := by
    intro a n c; simp [convert, run_und hs, run_und hd, run_und hue]
  unfold qB2s at hq
  split at hq
  · obtain ⟨x, rfl, hx⟩ := VRelL.one hv
    cases hx; cases hq
    exact ⟨_, .string .empty, rfl, by rw [hconv]; rfl, by simp [VRel, unpackN]; rfl⟩
  · obtain ⟨x, rfl, hx⟩ := VRelL.one hv
    obtain ⟨a, c, rfl⟩ := hx
    cases hq
    refine ⟨_, .string .empty, rfl, ?_, by simp [VRel, unpackN]; rfl⟩
    rw [hconv, run_bytesToString w a 0 c [] (by simp [Go.loadCells, loadCellsFrom])]
    rfl
  · rename_i id off len cap
    obtain ⟨x, rfl, hx⟩ := VRelL.one hv
    obtain ⟨g, c, hρ, rfl, _, _⟩ := hx
    split at hq
    · rename_i bits m _ hg
      split at hq
      · rename_i hle
        cases hq
        obtain ⟨arr, el, fz, hb, _, _, _, _, hc⟩ := R.bytes hg hρ
        have hle' : off + len ≤ m := le_of_ble hle
        refine ⟨_, .string ⟨(unpackN (subB bits off len) len).toArray⟩, rfl, ?_, subB_lt _ _ _, rfl⟩
        rw [hconv, run_bytesToString w _ len c ((unpackN (subB bits off len) len).map fun b => Int.ofNat b.toNat), foldl_push]
        · simp [ByteArray.empty, ByteArray.emptyWithCapacity]; rfl
        · have hcells : ∀ j u, (((unpackN (subB bits off len) len).map fun b => Int.ofNat b.toNat).map (Value.int .u8))[j]? = some u → w.cell? ⟨g.b, (g.d + off) + j, none⟩ = some u := by
            intro j u hu
            rw [List.getElem?_map, List.getElem?_map, unpackN_get] at hu
            split at hu
            · rename_i hj
              simp only [Option.map_some, Option.some.injEq] at hu
              subst hu
              rw [cell_of hb, show g.d + off + j = g.d + (off + j) from by omega, hc (off + j) (by omega), byt_subB _ _ _ _ hj]
              have := byt_lt bits (off + j)
              simp [Nat.mod_eq_of_lt this]
            · simp at hu
          have := run_loadCells_at (P := P) hcells
          simpa [unpackN_length] using this
      · cases hq
    · cases hq
  · cases hq

/-! structs -/
theorem setAll_get (off : Nat) : ∀ (cs : List Value) (k : Nat) (A : Array Value), off + k + cs.length ≤ A.size → ∀ i : Nat,
    ((cs.zipIdx k).foldl (fun A (p : Value × Nat) => A.setIfInBounds (off + p.2) p.1) A)[i]? = if i < off + k then A[i]? else if i < off + k + cs.length then cs[i - (off + k)]? else A[i]?
  | [], k, A, h, i => by simp; intro _ _; omega
  | c :: cs, k, A, h, i => by
    simp only [List.length_cons] at h
    simp only [List.zipIdx_cons, List.foldl_cons]
    rw [setAll_get off cs (k + 1) _ (by simp; omega) i]
    by_cases h1 : i < off + k
    · rw [if_pos (by omega), if_pos h1, Array.getElem?_setIfInBounds_ne (by omega)]
    · by_cases h2 : i = off + k
      · subst h2
        rw [if_pos (by omega), if_neg (by omega), if_pos (by simp), Array.getElem?_setIfInBounds_self_of_lt (by omega)]
        simp
      · rw [if_neg (by omega), if_neg h1]
        by_cases h3 : i < off + k + cs.length + 1
        · rw [if_pos (by omega), if_pos (by simp; omega), show i - (off + k) = (i - (off + (k + 1))) + 1 from by omega]
          simp
        · rw [if_neg (by omega), if_neg (by simp; omega), Array.getElem?_setIfInBounds_ne (by omega)]
theorem setAll (off : Nat) (cs : List Value) (A : Array Value) (h : off + cs.length ≤ A.size) :
    ((cs.zipIdx 0).foldl (fun A (p : Value × Nat) => A.setIfInBounds (off + p.2) p.1) A).toList = A.toList.take off ++ cs ++ A.toList.drop (off + cs.length) := by
  apply List.ext_getElem?
  intro i
  rw [Array.getElem?_toList, setAll_get off cs 0 A (by omega) i]
  have hA : A.toList.length = A.size := Array.length_toList
  simp only [Nat.add_zero]
  by_cases h1 : i < off
  · rw [if_pos h1, List.append_assoc, List.getElem?_append_left (by rw [List.length_take]; omega), List.getElem?_take, if_pos h1, Array.getElem?_toList]
  · rw [if_neg h1]
    by_cases h2 : i < off + cs.length
    · rw [if_pos h2, List.append_assoc, List.getElem?_append_right (by rw [List.length_take]; omega), List.getElem?_append_left (by rw [List.length_take]; omega), List.length_take]
      congr 1; omega
    · rw [if_neg h2, List.getElem?_append_right (by simp [List.length_take]; omega), List.getElem?_drop, Array.getElem?_toList]
      congr 1; simp [List.length_take]; omega

theorem fill_ok (place : Nat → Option (Nat × Nat)) : ∀ (ps : List (Nat × Nat)) (vs : List AV) (z l : List AV), fillParts z ps vs = some l → ∀ (Z : Array Value) (us : List Value) (ix : List Nat),
    VRelL ρ z Z.toList → VRelL ρ vs us → ix.length = us.length → (∀ (j i : Nat) (p : Nat × Nat), ix[j]? = some i → ps[j]? = some p → place i = some p) →
    ∃ L, Instr.fill place Z (ix.zip us) = some L ∧ VRelL ρ l L.toList
  | [], [], z, l, h, Z, us, ix, hz, hv, hl, hp => by
    cases h; cases hv
    have : ix = [] := by cases ix <;> simp at hl; rfl
    subst this
    exact ⟨Z, rfl, hz⟩
  | [], _ :: _, z, l, h, _, _, _, _, _, _, _ => by simp [fillParts] at h
  | _ :: _, [], z, l, h, _, _, _, _, _, _, _ => by simp [fillParts] at h
  | (off, n) :: ps, v :: vs, z, l, h, Z, us, ix, hz, hv, hl, hp => by
    obtain ⟨u, us', rfl, hu, hv'⟩ := hv
    cases ix with
    | nil => simp at hl
    | cons i ix =>
      simp only [fillParts] at h
      split at h
      · rename_i hn
        split at h
        · rename_i hle
          have hn' := eq_of_beq' hn
          have hle' : off + n ≤ z.length := le_of_ble hle
          have hp0 := hp 0 i (off, n) rfl rfl
          have hc := hu.cells
          have hcl := hc.length
          have hcl' : u.cells.size = n := by rw [← hn', ← hcl]; simp
          have hzl := hz.length
          have hzl' : Z.size = z.length := by rw [← hzl]; simp
          have hset : ((u.cells.zipIdx.foldl (fun cs (c, j) => cs.setIfInBounds (off + j) c) Z)).toList = Z.toList.take off ++ u.cells.toList ++ Z.toList.drop (off + n) := by
            have := setAll off u.cells.toList Z (by simp; omega)
            rw [← Array.foldl_toList, Array.toList_zipIdx]
            simpa [hcl'] using this
          obtain ⟨L, h1, h2⟩ := fill_ok place ps vs _ l h (u.cells.zipIdx.foldl (fun cs (c, j) => cs.setIfInBounds (off + j) c) Z) us' ix
            (by rw [hset]; exact VRelL.append (VRelL.append (hz.take off) hc) (hz.drop (Nat.add off n))) hv' (by simpa using hl) (fun j i p hi hpp => hp (j + 1) i p (by simpa using hi) (by simpa using hpp))
          refine ⟨L, ?_, h2⟩
          simp only [List.zip_cons_cons, Instr.fill, hp0]
          rw [if_neg (by simp [hcl']; omega)]
          exact h1
        · cases h
      · cases h

theorem build_ok {z : List AV} {ps : List (Nat × Nat)} {vs : List AV} {v : AV} (hq : qBuild z ps vs h = some v) {us : List Value} (hv : VRelL ρ vs us) {t : TypeId} (hz : zeroOf P t = some (.agg z))
    (parts : List (Nat × Operand)) (ev : Operand → Value) (hus : us = (parts.map (·.2)).map ev)
    (hp : (∃ fs, P.underlying t = some (.struct fs) ∧ (fs.toList.all fun f => (szOf P f.type).isSome) = true ∧ compBuild P fs.toList parts = some ps) ∨ (∃ n e k, P.underlying t = some (.array n e) ∧ szOf P e = some k ∧ ps = compArr k parts)) :
    ∃ u, (Instr.build t (parts.toArray.map fun (i, x) => (i, ev x))).run P w = .ok u w ∧ VRel ρ v u := by
  unfold qBuild at hq
  split at hq
  · rename_i l hl
    cases hq
    obtain ⟨Z, hzr, hzv, it, hit, hzz⟩ := zeroOf_rel (P := P) (w := w) (ρ := ρ) hz
    obtain ⟨za, rfl, hza⟩ := hzv
    have hzip : (parts.toArray.map fun (i, x) => (i, ev x)).toList = (parts.map (·.1)).zip us := by
      subst hus
      simp only [Array.toList_map]
      clear hp hv
      induction parts with
      | nil => rfl
      | cons p parts ih => simp [List.zip_cons_cons] at ih ⊢; exact ih
    rcases hp with ⟨fs, hu, hall, hcb⟩ | ⟨n, e, k, hu, hk, rfl⟩
    · have hpl : ∃ places, fs.toList.mapM (fun f => (P.info? f.type).map fun i => (f.offset, i.size)) = some places ∧ ∀ (i : Nat) (f : Field), fs.toList[i]? = some f → ∀ s, szOf P f.type = some s → places[i]? = some (f.offset, s) := by
        clear hcb hu
        generalize fs.toList = F at hall
        induction F with
        | nil => exact ⟨[], rfl, fun i f hf => by simp at hf⟩
        | cons f F ih =>
          simp only [List.all_cons, Bool.and_eq_true] at hall
          obtain ⟨places, h1, h2⟩ := ih hall.2
          cases hs : szOf P f.type with
          | none => simp [hs] at hall
          | some s =>
            obtain ⟨i0, hi0, hi1⟩ := szOf_some hs
            refine ⟨(f.offset, s) :: places, by simp [List.mapM_cons, hi0, hi1, h1], fun i f' hf s' hs' => ?_⟩
            cases i with
            | zero => simp at hf; subst hf; rw [hs] at hs'; cases hs'; rfl
            | succ i => simpa using h2 i f' (by simpa using hf) s' hs'
      obtain ⟨places, hm, hplace⟩ := hpl
      have hps : ∀ (j : Nat) (i : Nat) (p : Nat × Nat), (parts.map (·.1))[j]? = some i → ps[j]? = some p → places.toArray[i]? = some p := by
        clear hzip hus hl hv
        induction parts generalizing ps with
        | nil => intro j i p hi; simp at hi
        | cons q parts ih =>
          intro j i p hi hpj
          obtain ⟨qi, qx⟩ := q
          simp only [compBuild] at hcb
          split at hcb
          · rename_i f ps' hf hps'
            cases hs : szOf P f.type with
            | none => simp [hs] at hcb
            | some s =>
              simp [hs] at hcb
              subst hcb
              cases j with
              | zero => simp at hi hpj; subst hi; subst hpj; simpa using hplace qi f hf s hs
              | succ j => exact ih hps' j i p (by simpa using hi) (by simpa using hpj)
          · cases hcb
      obtain ⟨L, hL1, hL2⟩ := fill_ok (ρ := ρ) (places.toArray[·]?) ps vs z l hl za.toArray us (parts.map (·.1)) (by simpa using hza) hv (by subst hus; simp) hps
      refine ⟨.agg L, run_build w t _ L ?_, L.toList, by simp, hL2⟩
      simp only [Program.built, hit, hu, hzz, hm]
      rw [hzip]
      simpa [Value.cells] using hL1
    · obtain ⟨ie, hie, hik⟩ := szOf_some hk
      have hps : ∀ (j : Nat) (i : Nat) (p : Nat × Nat), (parts.map (·.1))[j]? = some i → (compArr k parts)[j]? = some p → (fun i => some (i * k, k)) i = some p := by
        clear hzip hus hl hv
        induction parts with
        | nil => intro j i p hi; simp at hi
        | cons q parts ih =>
          intro j i p hi hpj
          obtain ⟨qi, qx⟩ := q
          cases j with
          | zero => simp [compArr] at hi hpj; subst hi; exact congrArg some hpj
          | succ j => exact ih j i p (by simpa using hi) (by simpa [compArr] using hpj)
      obtain ⟨L, hL1, hL2⟩ := fill_ok (ρ := ρ) (fun i => some (i * k, k)) (compArr k parts) vs z l hl za.toArray us (parts.map (·.1)) (by simpa using hza) hv (by subst hus; simp) hps
      refine ⟨.agg L, run_build w t _ L ?_, L.toList, by simp, hL2⟩
      simp only [Program.built, hit, hu, hzz, hie, hik]
      rw [hzip]
      simpa [Value.cells] using hL1
  · cases hq

end Go.Md
end
section
/- THE QUIET OPERATIONS, one by one: slices, maps, the rest. No condition. -/
namespace Go.Md
variable {P : Program} {ft : FT} {B : Nat} {w0 w : World} {ρ : Rho} {h : T AO} {nx : Nat}

theorem nat?_some {v : AV} {n : Nat} (h : nat? v = some n) : ∃ k, v = .int k (.ofNat n) := by
  unfold nat? at h
  split at h
  · cases h; exact ⟨_, rfl⟩
  · cases h

/-- a bound of a slice expression, or what stands for it -/
def bnd (v : Option Value) (d y : Nat) (c : Go.BoundsCode) : Sem Nat := match v with
  | some x => Instr.sliceBound x y c
  | none => pure d
/-- a bound of a slice expression -/
theorem bound_ok {v : Option AV} {u : Option Value} (hv : (match v, u with | none, none => True | some x, some y => VRel ρ x y | _, _ => False)) {dflt y n : Nat} (hb : bound? v dflt y = some n) (code : Go.BoundsCode) :
    (bnd u dflt y code).run P w = .ok n w := by
  unfold bnd
  unfold bound? at hb
  cases v with
  | none => cases u <;> simp at hv; cases hb; rfl
  | some x =>
    cases u with
    | none => simp at hv
    | some u =>
      simp only at hb hv
      split at hb
      · rename_i m hm
        split at hb
        · rename_i hle
          cases hb
          obtain ⟨k, rfl⟩ := nat?_some hm
          cases hv
          have := le_of_ble hle
          simp only [Instr.sliceBound, asIntOf, Sem.run_bind, Sem.run_pure, Result.andThen_ok]
          rw [if_pos ⟨by simp, by simpa using this⟩]
          simp
        · cases hb
      · cases hb

def ORelO (ρ : Rho) : Option AV → Option Value → Prop
  | none, none => True
  | some x, some y => VRel ρ x y
  | _, _ => False

/-- the operands of a slice expression, as they lie one behind the other -/
theorem optHd_ok {b : Option Operand} {ev : Operand → Value} {vs : List AV} {rest : List Operand} (hv : VRelL ρ vs ((b.toList ++ rest).map ev)) :
    ORelO ρ (optHd b.isSome vs).1 (b.map ev) ∧ VRelL ρ (optHd b.isSome vs).2 (rest.map ev) := by
  cases b with
  | none =>
    simp only [Option.toList_none, List.nil_append] at hv
    simp only [Option.isSome_none]
    cases vs <;> exact ⟨trivial, hv⟩
  | some x =>
    simp only [Option.toList_some, List.cons_append, List.nil_append, List.map_cons] at hv
    cases vs with
    | nil => cases hv
    | cons v r =>
      obtain ⟨y, s, e, h1, h2⟩ := hv
      cases e
      exact ⟨h1, h2⟩

theorem bound_ok' {v : Option AV} {u : Option Value} (hv : ORelO ρ v u) {dflt y n : Nat} (hb : bound? v dflt y = some n) (code : Go.BoundsCode) :
    (bnd u dflt y code).run P w = .ok n w := bound_ok (ρ := ρ) (by cases v <;> cases u <;> exact hv) hb code

theorem bound_le {v : Option AV} {dflt y n : Nat} (h : bound? v dflt y = some n) (hd : dflt ≤ y) : n ≤ y := by
  unfold bound? at h
  split at h
  · cases h; exact hd
  · split at h
    · split at h
      · rename_i hle; cases h; exact le_of_ble hle
      · cases h
    · cases h

theorem run_bounds {isS : Bool} {len cap : Nat} {lo hi mx : Option Value} {l hh m : Nat}
    (hm : ∀ c, (bnd mx cap cap c).run P w = .ok m w) (hh' : ∀ c, (bnd hi len m c).run P w = .ok hh w) (hlo : ∀ c, (bnd lo 0 hh c).run P w = .ok l w) (hno : mx.isSome = true → hi.isSome = true) :
    (Instr.sliceBounds isS len cap lo hi mx).run P w = .ok (l, hh, m) w := by
  unfold Instr.sliceBounds
  unfold bnd at hm hh' hlo
  cases mx with
  | none =>
    have e0 := hm .index
    simp only [Sem.run_pure] at e0
    cases e0
    cases hi with
    | none =>
      have e1 := hh' .index
      simp only [Sem.run_pure] at e1; cases e1
      cases lo with
      | none => have e2 := hlo .index; simp only [Sem.run_pure] at e2; cases e2; simp
      | some v => simp only at hlo; simp [hlo]
    | some hv =>
      simp only at hh'
      cases lo with
      | none => have e2 := hlo .index; simp only [Sem.run_pure] at e2; cases e2; simp [hh']
      | some v => simp only at hlo; simp [hh', hlo]
  | some mv =>
    simp only at hm
    cases hi with
    | none => exact absurd (hno rfl) (by simp)
    | some hv =>
      simp only at hh'
      cases lo with
      | none => have e2 := hlo .index; simp only [Sem.run_pure] at e2; cases e2; simp [hm, hh']
      | some v => simp only at hlo; simp [hm, hh', hlo]

theorem subLe {a b c : Nat} (h : a - b ≤ c) : Nat.sub a b ≤ c := h
theorem add_addr (b o n : Nat) : (⟨b, o, none⟩ : Addr).add n = ⟨b, o + n, none⟩ := by
  unfold Addr.add
  split
  · rename_i h; subst h; rfl
  · rfl

/-- a cut of a slice -/
theorem slc3_ok {esz : Nat} {x v : AV} {lo hi mx : Option AV} (hq : slc3 esz x lo hi mx = some v) {u : Value} (hx : VRel ρ x u) {ul uh um : Option Value} (hl : ORelO ρ lo ul) (hh : ORelO ρ hi uh) (hm : ORelO ρ mx um)
    (hno : um.isSome = true → uh.isSome = true) {t e : TypeId} (ht : P.underlying t = some (.slice e)) (he : szOf P e = some esz) :
    (∀ (id off len : Nat), x = .sl id off len none → ∀ g, ρ id = some g → g.e = esz) →
    ∃ r, (Instr.slice t u ul uh um).run P w = .ok r w ∧ VRel ρ v r := by
  intro hge
  have hrun : ∀ (a : Option Addr) (len cap l h' m : Nat), (Instr.sliceBounds true len cap ul uh um).run P w = .ok (l, h', m) w →
      (Instr.slice t (.slice a len cap) ul uh um).run P w = .ok (.slice (if m = l then a else a.map (·.add (l * esz))) (h' - l) (m - l)) w := by
    intro a len cap l h' m hb
    simp [Instr.slice, run_und ht, hb, run_size he]
  unfold slc3 at hq
  split at hq
  · -- nil
    cases hx
    split at hq
    · rename_i m hbm
      split at hq
      · rename_i h' hbh
        split at hq
        · rename_i l hbl
          cases hq
          have m0 : m = 0 := Nat.le_zero.1 (bound_le hbm (Nat.le_refl _))
          have h0 : h' = 0 := Nat.le_zero.1 (bound_le hbh (Nat.le_refl _))
          have l0 : l = 0 := Nat.le_zero.1 (bound_le hbl (Nat.le_refl _))
          subst m0; subst h0; subst l0
          refine ⟨_, hrun none 0 0 0 0 0 (run_bounds (fun c => bound_ok' hm hbm c) (fun c => bound_ok' hh hbh c) (fun c => bound_ok' hl hbl c) hno), ?_⟩
          simp [VRel]
        · cases hq
      · cases hq
    · cases hq
  · -- known capacity
    rename_i id off len c
    obtain ⟨g, c', hρ, rfl, hlen, hc⟩ := hx
    simp only at hc; subst hc
    split at hq
    · rename_i m hbm
      split at hq
      · rename_i h' hbh
        split at hq
        · rename_i l hbl
          cases hq
          have hmle := bound_le hbm (Nat.le_refl _)
          have hle : l ≤ h' := bound_le hbl (Nat.zero_le _)
          have hhm : h' ≤ m ∨ len ≤ h' := by
            unfold bound? at hbh
            split at hbh
            · cases hbh; exact .inr (Nat.le_refl _)
            · split at hbh
              · split at hbh
                · rename_i hx; cases hbh; exact .inl (le_of_ble hx)
                · cases hbh
              · cases hbh
          have hh2 : h' ≤ m := by
            cases mx with
            | none =>
              cases hbm
              exact bound_le hbh hlen
            | some mv =>
              cases um with
              | none => cases hm
              | some umv =>
                cases uh with
                | none => exact absurd (hno rfl) (by simp)
                | some uhv =>
                  cases hi with
                  | none => cases hh
                  | some hv =>
                    unfold bound? at hbh
                    simp only at hbh
                    split at hbh
                    · split at hbh
                      · rename_i hx; cases hbh; exact le_of_ble hx
                      · cases hbh
                    · cases hbh
          refine ⟨_, hrun _ len _ l h' m (run_bounds (fun c => bound_ok' hm hbm c) (fun c => bound_ok' hh hbh c) (fun c => bound_ok' hl hbl c) hno), ?_⟩
          unfold cutAt
          cases hml : Nat.beq m l with
          | true =>
            have := eq_of_beq' hml
            subst this
            rw [if_pos rfl]
            exact ⟨g, _, hρ, rfl, subLe (by omega), rfl⟩
          | false =>
            have := ne_of_beq' hml
            rw [if_neg this]
            refine ⟨g, m - l, hρ, ?_, subLe (by omega), rfl⟩
            simp only [Option.map_some, add_addr]
            rw [Nat.add_assoc]; rfl
        · cases hq
      · cases hq
    · cases hq
  · -- unknown capacity
    rename_i id off len
    obtain ⟨g, c, hρ, rfl, hlen, hc⟩ := hx
    simp only at hc
    cases mx with
    | some mv =>
      simp only at hq
      cases um with
      | none => cases hm
      | some umv =>
      cases uh with
      | none => exact absurd (hno rfl) (by simp)
      | some uhv =>
      cases hi with
      | none => cases hh
      | some hv =>
      split at hq
      · rename_i m hbm
        split at hq
        · rename_i h' hbh
          split at hq
          · rename_i l hbl
            cases hq
            have hmle : m ≤ len := bound_le hbm (Nat.zero_le _)
            have hle : l ≤ h' := bound_le hbl (Nat.zero_le _)
            have hh2 : h' ≤ m := by
              unfold bound? at hbh
              simp only at hbh
              split at hbh
              · split at hbh
                · rename_i hx; cases hbh; exact le_of_ble hx
                · cases hbh
              · cases hbh
            have hbm' : bound? (some mv) 0 c = some m := by
              unfold bound? at hbm ⊢
              simp only at hbm ⊢
              split at hbm
              · split at hbm
                · rename_i n hx hx2; cases hbm; have := le_of_ble hx2; rw [ble_t (by omega)]
                · cases hbm
              · cases hbm
            have hbm2 : bound? (some mv) c c = some m := by simpa [bound?] using hbm'
            refine ⟨_, hrun _ len c l h' m (run_bounds (fun c => bound_ok' hm hbm2 c) (fun c => bound_ok' hh hbh c) (fun c => bound_ok' hl hbl c) hno), ?_⟩
            unfold cutAt
            cases hml : Nat.beq m l with
            | true =>
              have := eq_of_beq' hml
              subst this
              rw [if_pos rfl]
              exact ⟨g, _, hρ, rfl, subLe (by omega), rfl⟩
            | false =>
              have := ne_of_beq' hml
              rw [if_neg this]
              refine ⟨g, m - l, hρ, ?_, subLe (by omega), rfl⟩
              simp only [Option.map_some, add_addr]
              rw [Nat.add_assoc]; rfl
          · cases hq
        · cases hq
      · cases hq
    | none =>
      simp only at hq
      cases um with
      | some _ => cases hm
      | none =>
      split at hq
      · rename_i h' hbh
        split at hq
        · rename_i l hbl
          have hh2 : h' ≤ len := bound_le hbh (Nat.le_refl _)
          have hle : l ≤ h' := bound_le hbl (Nat.zero_le _)
          have hbh' : bound? hi len c = some h' := by
            unfold bound? at hbh ⊢
            split at hbh
            · exact hbh
            · split at hbh
              · split at hbh
                · rename_i hx2; cases hbh; have := le_of_ble hx2; rw [ble_t (by omega)]
                · cases hbh
              · cases hbh
          have hr := hrun (some ⟨g.b, g.d + off, none⟩) len c l h' c (run_bounds (fun c => rfl) (fun c => bound_ok' hh hbh' c) (fun c => bound_ok' hl hbl c) (by simp))
          split at hq
          · rename_i hlt
            cases hq
            have hl2 := lt_of_blt hlt
            have hee := hge id off len rfl g hρ
            refine ⟨_, hr, ?_⟩
            rw [if_neg (by omega)]
            refine ⟨g, c - l, hρ, ?_, subLe (by omega), ?_⟩
            · simp only [Option.map_some, add_addr]
              rw [Nat.add_assoc]; rfl
            · simp only
              show g.d + (off + l * esz) + (c - l) * g.e ≤ g.sz
              rw [hee] at hc ⊢
              have : c * esz = l * esz + (c - l) * esz := by rw [← Nat.add_mul]; congr 1; omega
              omega
          · split at hq
            · rename_i hl0
              cases hq
              have := eq_of_beq' hl0
              subst this
              refine ⟨_, hr, ?_⟩
              refine ⟨g, c - 0, hρ, ?_, subLe (by omega), by simpa using hc⟩
              split <;> simp [add_addr]
            · cases hq
              refine ⟨_, hr, ?_⟩
              have hl2 : h' - l = 0 := by
                have : ¬ l < len := fun e => by simp [blt_t e] at *
                omega
              rw [hl2]
              split <;> exact ⟨_, _, rfl⟩
        · cases hq
      · cases hq
  · cases hq

end Go.Md
end
section
/- THE QUIET OPERATIONS, one by one: cuts of texts and arrays, maps. No condition. -/
namespace Go.Md
variable {P : Program} {ft : FT} {B : Nat} {w0 w : World} {ρ : Rho} {h : T AO} {nx : Nat}

theorem extract_list (l : List UInt8) (a b : Nat) : (⟨l.toArray⟩ : ByteArray).extract a b = ⟨((l.drop a).take (b - a)).toArray⟩ := by
  apply ByteArray.ext
  rw [ByteArray.data_extract]
  simp [List.take_drop]

theorem sls_ok {lo hi : Option Operand} {ev : Operand → Value} {vs : List AV} {v : AV} (hq : qSls lo.isSome hi.isSome vs h = some v) {x : Operand} (hv : VRelL ρ vs ((x :: (lo.toList ++ hi.toList)).map ev)) {t : TypeId} (ht : P.underlying t = some .string) :
    ∃ r, (Instr.slice t (ev x) (lo.map ev) (hi.map ev) none).run P w = .ok r w ∧ VRel ρ v r := by
  unfold qSls at hq
  split at hq
  · rename_i bits n r
    obtain ⟨y, s, e, hx, hrest⟩ := hv
    cases e
    obtain ⟨hlt, hxe⟩ := hx
    obtain ⟨h1, h2⟩ := optHd_ok hrest
    have h2' : VRelL ρ (optHd lo.isSome r).2 ((hi.toList ++ []).map ev) := by simpa using h2
    obtain ⟨h3, h4⟩ := optHd_ok h2'
    simp only at hq
    split at hq
    · rename_i hnil
      split at hq
      · rename_i hh hbh
        split at hq
        · rename_i l hbl
          cases hq
          have hhn := bound_le hbh (Nat.le_refl _)
          have hle : l ≤ hh := bound_le hbl (Nat.zero_le _)
          refine ⟨.string ((⟨(unpackN bits n).toArray⟩ : ByteArray).extract l hh), ?_, subB_lt _ _ _, ?_⟩
          · have hsz : (⟨(unpackN bits n).toArray⟩ : ByteArray).size = n := by simp [ByteArray.size, unpackN_length]
            have := run_bounds (P := P) (w := w) (isS := false) (mx := none) (cap := n) (len := n) (fun c => rfl) (fun c => bound_ok' h3 hbh c) (fun c => bound_ok' h1 hbl c) (by simp)
            rw [hxe]
            simp [Instr.slice, run_und ht, hsz, this]
          · rw [extract_list, unpackN_sub (by omega)]
            rfl
        · cases hq
      · cases hq
    · cases hq
  · cases hq

theorem sla_ok {lo hi : Option Operand} {ev : Operand → Value} {vs : List AV} {v : AV} {n esz : Nat} (hq : qSla n esz lo.isSome hi.isSome vs h = some v) {x : Operand} (hv : VRelL ρ vs ((x :: (lo.toList ++ hi.toList)).map ev)) {t e : TypeId}
    (ht : P.underlying t = some (.array n e)) (he : szOf P e = some esz) : ∃ r, (Instr.sliceAt t (ev x) (lo.map ev) (hi.map ev) none).run P w = .ok r w ∧ VRel ρ v r := by
  unfold qSla at hq
  split at hq
  · rename_i id off r
    obtain ⟨y, s, e, hx, hrest⟩ := hv
    cases e
    obtain ⟨g, hρ, hxe⟩ := hx
    obtain ⟨h1, h2⟩ := optHd_ok hrest
    have h2' : VRelL ρ (optHd lo.isSome r).2 ((hi.toList ++ []).map ev) := by simpa using h2
    obtain ⟨h3, h4⟩ := optHd_ok h2'
    simp only at hq
    split at hq
    · split at hq
      · rename_i hh hbh
        split at hq
        · rename_i l hbl
          cases hq
          have hhn := bound_le hbh (Nat.le_refl _)
          have hle : l ≤ hh := bound_le hbl (Nat.zero_le _)
          have := run_bounds (P := P) (w := w) (isS := false) (mx := none) (cap := n) (len := n) (fun c => rfl) (fun c => bound_ok' h3 hbh c) (fun c => bound_ok' h1 hbl c) (by simp)
          refine ⟨_, by rw [hxe]; simp [Instr.sliceAt, run_und ht, Instr.sureAddr, this, run_size he]; rfl, ?_⟩
          unfold cutAt
          cases hml : Nat.beq n l with
          | true =>
            have := eq_of_beq' hml
            subst this
            rw [if_pos rfl]
            exact ⟨g, _, hρ, rfl, subLe (by omega), rfl⟩
          | false =>
            have := ne_of_beq' hml
            rw [if_neg this]
            refine ⟨g, n - l, hρ, ?_, subLe (by omega), rfl⟩
            rw [add_addr, Nat.add_assoc]; rfl
        · cases hq
      · cases hq
    · cases hq
  · cases hq

/-! maps: a key that has its map's shape -/
theorem keyShape_one {t : TypeId} {s : KSh} (hs : keyShape P t = some s) : (∃ k, s = .one k ∧ ksT P t = some k) ∨ (∃ l, s = .agg l ∧ flatStruct P t = some l) := by
  unfold keyShape at hs
  split at hs
  · rename_i k hk; cases hs; exact .inl ⟨k, rfl, hk⟩
  · split at hs
    · cases hf : flatStruct P t with
      | none => simp [hf] at hs
      | some l => simp [hf] at hs; exact .inr ⟨l, hs.symm, rfl⟩
    · cases hs


theorem shOk_one {k : KS} {v : AV} (h : shOk (.one k) v = true) : ksOk k v = true := h
theorem shOk_agg {l : List KS} {v : AV} (h : shOk (.agg l) v = true) : ∃ m, v = .agg m ∧ ksOkL l m = true := by
  cases v <;> simp [shOk] at h
  exact ⟨_, rfl, h⟩

theorem equal_key {t : TypeId} {s : KSh} (hs : keyShape P t = some s) {x y : AV} {u v : Value} (hx : VRel ρ x u) (hy : VRel ρ y v) (ox : shOk s x = true) (oy : shOk s y = true) :
    (Op.equal t u v).run P w = .ok (AV.beq x y) w := by
  rw [equal_eq]
  rcases keyShape_one hs with ⟨k, rfl, hk⟩ | ⟨l, rfl, hf⟩
  · exact equalIn_cell hk hx hy ox oy 9999
  · obtain ⟨m, rfl, hm⟩ := shOk_agg ox
    obtain ⟨m', rfl, hm'⟩ := shOk_agg oy
    obtain ⟨a, rfl, ra⟩ := hx
    obtain ⟨b, rfl, rb⟩ := hy
    rw [show AV.beq (.agg m) (.agg m') = AV.beqL m m' from rfl]
    exact equalIn_struct hf hm hm' ra rb 9998

theorem checkKey_ok {t : TypeId} {s : KSh} (hs : keyShape P t = some s) {x : AV} {u : Value} (hx : VRel ρ x u) (ox : shOk s x = true) (emp : Bool) (d : Nat) :
    (Instr.checkKey emp (d + 2) t u).run P w = .ok () w := by
  have one : ∀ (t : TypeId) (k : KS) (u : Value) (d : Nat), ksT P t = some k → (Instr.checkKey emp (d + 1) t u).run P w = .ok () w := by
    intro t k u d hk
    have hu := (ksT_und hk).2
    cases k <;> simp at hu <;> simp [Instr.checkKey, run_und hu]
  rcases keyShape_one hs with ⟨k, rfl, hk⟩ | ⟨l, rfl, hf⟩
  · exact one t k u _ hk
  · obtain ⟨m, rfl, hm⟩ := shOk_agg ox
    obtain ⟨a, rfl, ra⟩ := hx
    obtain ⟨fs, hu, _, _, hl⟩ := flatStruct_spec hf
    unfold Instr.checkKey
    simp only [Sem.run_bind, run_und hu, Result.andThen_ok]
    rw [← Array.forIn_toList]
    have key : ∀ (F : List Field) (n : Nat) (l : List KS), flatFields P n F = some l → ∀ (m : List AV) (a : List Value), ksOkL l m = true → VRelL ρ m a → ∀ (A : Array Value), (∀ i v, a[i]? = some v → A[n + i]? = some v) →
        (forIn F PUnit.unit (fun f (_ : PUnit) => (do if f.name ≠ "_" then Instr.checkKey emp (d + 1) f.type (← part f.type A f.offset)
                                                      pure (ForInStep.yield PUnit.unit) : Sem (ForInStep PUnit)))).run P w = .ok PUnit.unit w := by
      intro F
      induction F with
      | nil => intro n l _ m a _ _ A _; simp
      | cons f F ih =>
        intro n l hl m a hm ra A hA
        simp only [flatFields] at hl
        split at hl
        · rename_i hc
          split at hl
          · rename_i k l' hk hl'
            cases hl
            cases m with
            | nil => simp [ksOkL] at hm
            | cons x0 m =>
            obtain ⟨u0, a', rfl, hu0, ra'⟩ := ra
            simp only [Bool.and_eq_true, beq_iff_eq, bne_iff_ne] at hc
            obtain ⟨ho, hn⟩ := hc
            have hm1 : ksOkL l' m = true := by simp only [ksOkL] at hm; split at hm <;> first | assumption | cases hm
            have hA0 : A[f.offset]? = some u0 := by rw [ho]; exact hA 0 u0 rfl
            simp only [List.forIn_cons, ne_eq, hn, not_false_eq_true, if_true, Sem.run_bind, run_part_cell hk hA0, one f.type k _ d hk, Result.andThen_ok, Sem.run_pure]
            exact ih (n + 1) l' hl' m a' hm1 ra' A (fun i w hw => by rw [Nat.add_right_comm, Nat.add_assoc]; exact hA (i + 1) w (by simpa using hw))
          · cases hl
        · cases hl
    have := key fs.toList 0 l hl m a hm ra a.toArray (fun i v hv => by simpa using hv)
    simp at this
    simp [this]

/-- the search for a key -/
def KRel (ρ : Rho) (s : KSh) (e : MapEntry) (a : AV) : Prop := VRel ρ a e.key ∧ shOk s a = true
theorem findAsking_ok {t : TypeId} {s : KSh} (hs : keyShape P t = some s) {k : AV} {u : Value} (hk : VRel ρ k u) (ok : shOk s k = true) : ∀ (L : List MapEntry) (i : Nat), (∀ e ∈ L, ∃ a, KRel ρ s e a) →
    ((Instr.findAsking t u L i).run P w = .ok none w ∧ ∀ e ∈ L, ∀ a, KRel ρ s e a → a ≠ k) ∨
    ∃ j e, (Instr.findAsking t u L i).run P w = .ok (some (i + j, e.val)) w ∧ L[j]? = some e ∧ KRel ρ s e k
  | [], i, _ => .inl ⟨by simp [Instr.findAsking], by simp⟩
  | e :: L, i, hall => by
    obtain ⟨a, ha, oa⟩ := hall e (by simp)
    have he := equal_key (P := P) (w := w) hs hk ha ok oa
    cases hb : AV.beq k a with
    | true =>
      have := (AV.beq_iff _ _).1 hb
      subst this
      exact .inr ⟨0, e, by simp [Instr.findAsking, he, hb], rfl, ha, oa⟩
    | false =>
      rcases findAsking_ok hs hk ok L (i + 1) (fun y hy => hall y (by simp [hy])) with ⟨h1, h2⟩ | ⟨j, e', h1, h2, h3⟩
      · refine .inl ⟨by simp [Instr.findAsking, he, hb, h1], fun y hy a' ha' => ?_⟩
        rcases List.mem_cons.1 hy with rfl | hy
        · intro e0
          subst e0
          have := equal_key (P := P) (w := w) hs hk ha'.1 ok ha'.2
          rw [he] at this
          have h3 := (AV.beq_iff a' a').2 rfl
          simp only [Result.ok.injEq, and_true] at this
          rw [hb, h3] at this; cases this
        · exact h2 y hy a' ha'
      · exact .inr ⟨j + 1, e', by simp [Instr.findAsking, he, hb, h1, Nat.add_assoc, Nat.add_comm 1 j], by simpa using h2, h3⟩

theorem sameNow_ok {t : TypeId} {k : KS} (hk : ksT P t = some k) {d : TypeDesc} (hd : P.underlying t = some d) {x y : AV} {u v : Value} (hx : VRel ρ x u) (hy : VRel ρ y v) (ox : ksOk k x = true) (oy : ksOk k y = true) : Instr.sameNow d u v = some (AV.beq x y) := by
  have hu := (ksT_und hk).2
  cases k with
  | int k =>
    obtain ⟨n, rfl⟩ := ksOk_int ox
    obtain ⟨m, rfl⟩ := ksOk_int oy
    cases hx; cases hy
    rw [hd] at hu; cases hu
    have h1 := (kEq_iff k k).2 rfl
    simp only [Instr.sameNow, if_true, AV.beq, brec_and, h1, Bool.true_and, iEq_eq]
  | str =>
    obtain ⟨a, n, rfl⟩ := ksOk_str ox
    obtain ⟨b, m, rfl⟩ := ksOk_str oy
    obtain ⟨ha, rfl⟩ := hx
    obtain ⟨hb, rfl⟩ := hy
    rw [hd] at hu; cases hu
    simp only [Instr.sameNow, AV.beq, brec_and]
    have e1 : (Nat.beq a b && Nat.beq n m) = sEq a n b m := by unfold sEq; cases Nat.beq a b <;> rfl
    rw [e1, strEq_eq ha hb, beq_toListBytes, str_list, str_list]
  | bool =>
    obtain ⟨a, rfl⟩ := ksOk_bool ox
    obtain ⟨b, rfl⟩ := ksOk_bool oy
    cases hx; cases hy
    rw [hd] at hu; cases hu
    simp only [Instr.sameNow, AV.beq, brec_eq]

theorem findNow_ok {t : TypeId} {k0 : KS} (ht : ksT P t = some k0) {d : TypeDesc} (hd : P.underlying t = some d) {k : AV} {u : Value} (hk : VRel ρ k u) (ok : ksOk k0 k = true) : ∀ (L : List MapEntry) (i : Nat), (∀ e ∈ L, ∃ a, KRel ρ (.one k0) e a) →
    (Instr.findNow d u L i = some none ∧ ∀ e ∈ L, ∀ a, KRel ρ (.one k0) e a → a ≠ k) ∨
    ∃ j e, Instr.findNow d u L i = some (some (i + j, e.val)) ∧ L[j]? = some e ∧ KRel ρ (.one k0) e k
  | [], i, _ => .inl ⟨rfl, by simp⟩
  | e :: L, i, hall => by
    obtain ⟨a, ha, oa⟩ := hall e (by simp)
    have he := sameNow_ok ht hd hk ha ok oa
    cases hb : AV.beq k a with
    | true =>
      have := (AV.beq_iff _ _).1 hb
      subst this
      exact .inr ⟨0, e, by simp [Instr.findNow, he, hb], rfl, ha, oa⟩
    | false =>
      rcases findNow_ok ht hd hk ok L (i + 1) (fun y hy => hall y (by simp [hy])) with ⟨h1, h2⟩ | ⟨j, e', h1, h2, h3⟩
      · refine .inl ⟨by simp [Instr.findNow, he, hb, h1], fun y hy a' ha' => ?_⟩
        rcases List.mem_cons.1 hy with rfl | hy
        · intro e0
          subst e0
          have := sameNow_ok ht hd hk ha'.1 ok ha'.2
          rw [he] at this
          have h3 := (AV.beq_iff a' a').2 rfl
          simp only [Option.some.injEq] at this
          rw [hb, h3] at this; cases this
        · exact h2 y hy a' ha'
      · exact .inr ⟨j + 1, e', by simp [Instr.findNow, he, hb, h1, Nat.add_assoc, Nat.add_comm 1 j], by simpa using h2, h3⟩

theorem findKey_ok {t : TypeId} {s : KSh} (hs : keyShape P t = some s) {k : AV} {u : Value} (hk : VRel ρ k u) (ok : shOk s k = true) (L : List MapEntry) (hall : ∀ e ∈ L, ∃ a, KRel ρ s e a) :
    ((Instr.findKey t u L).run P w = .ok none w ∧ ∀ e ∈ L, ∀ a, KRel ρ s e a → a ≠ k) ∨
    ∃ j e, (Instr.findKey t u L).run P w = .ok (some (j, e.val)) w ∧ L[j]? = some e ∧ KRel ρ s e k := by
  unfold Instr.findKey
  rcases keyShape_one hs with ⟨k0, rfl, hk0⟩ | ⟨l, rfl, hf⟩
  · have hu := (ksT_und hk0).2
    have : ∃ d, P.underlying t = some d := by cases k0 <;> exact ⟨_, hu⟩
    obtain ⟨d, hd⟩ := this
    rcases findNow_ok hk0 hd hk ok L 0 hall with ⟨h1, h2⟩ | ⟨j, e, h1, h2, h3⟩
    · exact .inl ⟨by simp [run_und hd, h1], h2⟩
    · exact .inr ⟨j, e, by simp [run_und hd, h1], h2, h3⟩
  · obtain ⟨fs, hu, _, _, _⟩ := flatStruct_spec hf
    cases L with
    | nil => exact .inl ⟨by simp [run_und hu, Instr.findNow], by simp⟩
    | cons e L =>
      have hn : Instr.findNow (.struct fs) u (e :: L) 0 = none := by
        simp only [Instr.findNow]
        have : Instr.sameNow (.struct fs) u e.key = none := by
          unfold Instr.sameNow; split <;> first | rfl | contradiction
        rw [this]
      rcases findAsking_ok (P := P) (w := w) hs hk ok (e :: L) 0 hall with ⟨h1, h2⟩ | ⟨j, e', h1, h2, h3⟩
      · exact .inl ⟨by simp [run_und hu, hn, h1], h2⟩
      · exact .inr ⟨j, e', by simpa [run_und hu, hn] using h1, h2, h3⟩

theorem ERelL.mem {ρ : Rho} : ∀ {es : List (AV × AV × Nat)} {l : List MapEntry}, ERelL ρ es l → (∀ e ∈ l, ∃ x ∈ es, ERel ρ x e) ∧ (∀ x ∈ es, ∃ e ∈ l, ERel ρ x e)
  | [], l, h => by cases h; simp
  | x :: es, l, h => by
    obtain ⟨e, s, rfl, h1, h2⟩ := h
    obtain ⟨i1, i2⟩ := ERelL.mem h2
    refine ⟨fun y hy => ?_, fun y hy => ?_⟩
    · rcases List.mem_cons.1 hy with rfl | hy
      · exact ⟨x, by simp, h1⟩
      · obtain ⟨z, hz, r⟩ := i1 y hy; exact ⟨z, by simp [hz], r⟩
    · rcases List.mem_cons.1 hy with rfl | hy
      · exact ⟨e, by simp, h1⟩
      · obtain ⟨z, hz, r⟩ := i2 y hy; exact ⟨z, by simp [hz], r⟩

theorem mapFind_some {k v : AV} {n : Nat} : ∀ {es : List (AV × AV × Nat)}, mapFind k es = some (v, n) → (k, v, n) ∈ es
  | [], h => by simp [mapFind] at h
  | e :: r, h => by
    simp only [mapFind] at h
    split at h
    · rename_i hb
      have := (AV.beq_iff _ _).1 hb
      simp at h
      obtain ⟨a, b⟩ := e
      simp at this h
      subst this; subst h
      simp
    · simp [mapFind_some h]
theorem mapFind_none {k : AV} : ∀ {es : List (AV × AV × Nat)}, mapFind k es = none → ∀ x ∈ es, x.1 ≠ k
  | [], _, x, hx => by simp at hx
  | e :: r, h, x, hx => by
    simp only [mapFind] at h
    split at h
    · cases h
    · rename_i hb
      rcases List.mem_cons.1 hx with rfl | hx
      · intro e0; subst e0; rw [AV.beq_refl] at hb; cases hb
      · exact mapFind_none h x hx

/-- what a key finds in the model's map -/
theorem find_map {t : TypeId} {s : KSh} (hs : keyShape P t = some s) {k : AV} {u : Value} (hk : VRel ρ k u) (ok : shOk s k = true) {es : List (AV × AV × Nat)} {ents l : List MapEntry} (hp : ents.Perm l) (he : ERelL ρ es l)
    (hd : (es.map (·.1)).Nodup) (hsh : ∀ x ∈ es, shOk s x.1 = true) :
    (mapFind k es = none → (Instr.findKey t u ents).run P w = .ok none w) ∧
    (∀ v n, mapFind k es = some (v, n) → ∃ j e, (Instr.findKey t u ents).run P w = .ok (some (j, e.val)) w ∧ ents[j]? = some e ∧ ERel ρ (k, v, n) e) := by
  obtain ⟨m1, m2⟩ := he.mem
  have hall : ∀ e ∈ ents, ∃ a, KRel ρ s e a := fun e hm => by
    obtain ⟨x, hx, r⟩ := m1 e (hp.mem_iff.1 hm)
    exact ⟨x.1, r.1, hsh x hx⟩
  rcases findKey_ok (P := P) (w := w) hs hk ok ents hall with ⟨h1, h2⟩ | ⟨j, e, h1, h2, h3⟩
  · refine ⟨fun _ => h1, fun v n hf => ?_⟩
    obtain ⟨e, hm, r⟩ := m2 _ (mapFind_some hf)
    exact absurd rfl (h2 e (hp.mem_iff.2 hm) k ⟨r.1, ok⟩)
  · have hm : e ∈ ents := List.mem_of_getElem? h2
    obtain ⟨x, hx, r⟩ := m1 e (hp.mem_iff.1 hm)
    have hxk : x.1 = k := by
      have e1 := equal_key (P := P) (w := w) hs hk r.1 ok (hsh x hx)
      have e2 := equal_key (P := P) (w := w) hs hk h3.1 ok ok
      rw [e1] at e2
      simp only [Result.ok.injEq, and_true, AV.beq_refl] at e2
      exact ((AV.beq_iff _ _).1 e2).symm
    refine ⟨fun hn => absurd hxk (mapFind_none hn x hx), fun v n hf => ⟨j, e, h1, h2, ?_⟩⟩
    have hmem := mapFind_some hf
    have : x = (k, v, n) := by
      obtain ⟨a, b⟩ := x
      simp at hxk; subst hxk
      have := hd
      clear h1 h2 h3 r hm hf m1 m2 hp he hd hsh hall
      induction es with
      | nil => simp at hx
      | cons y es ih =>
        simp only [List.map_cons, List.nodup_cons] at this
        rcases List.mem_cons.1 hx with h0 | hx'
        · rcases List.mem_cons.1 hmem with h | h
          · rw [h0, h]
          · exact absurd (List.mem_map (f := fun x : AV × AV × Nat => x.1).2 ⟨_, h, by rw [← h0]⟩) this.1
        · rcases List.mem_cons.1 hmem with h | h
          · exact absurd (List.mem_map (f := fun x : AV × AV × Nat => x.1).2 ⟨_, hx', by rw [← h]⟩) this.1
          · exact ih hx' h this.2
    rw [this] at r; exact r
end Go.Md
end
