import Derived.Test.YtnkneinchiknmaaGreatDoorM15
set_option linter.unusedVariables false
set_option linter.unusedSimpArgs false
set_option linter.unusedSectionVars false
section
/- disk.Used: whatever the order of the files, the sum is one. -/
namespace Go.Md
variable {P : Program} {ft : FT} {big : Big}

/-! going through a map -/
theorem leftOf_nil (es : List (AV × AV × Nat)) : leftOf [] es = es := by
  induction es with
  | nil => rfl
  | cons e r ih => simp [leftOf, memN, ih]
theorem leftOf_cons {seen : List Nat} : ∀ {es : List (AV × AV × Nat)}, (es.map (·.2.2)).Nodup → ∀ {e : AV × AV × Nat}, e ∈ leftOf seen es → (leftOf seen es).Perm (e :: leftOf (e.2.2 :: seen) es)
  | [], _, e, he => by cases he
  | x :: r, hn, e, he => by
    simp only [List.map_cons, List.nodup_cons] at hn
    obtain ⟨hm1, hm2⟩ := mem_leftOf.1 he
    have hno : ∀ y ∈ r, y.2.2 ≠ x.2.2 := fun y hy e => hn.1 (e ▸ List.mem_map_of_mem hy)
    by_cases hx : x = e
    · subst hx
      have h1 : memN x.2.2 seen = false := memN_false.2 hm2
      have h2 : memN x.2.2 (x.2.2 :: seen) = true := memN_iff.2 (by simp)
      have h3 : ∀ l : List (AV × AV × Nat), (∀ y ∈ l, y.2.2 ≠ x.2.2) → leftOf (x.2.2 :: seen) l = leftOf seen l := by
        intro l
        induction l with
        | nil => intro _; rfl
        | cons y l ih =>
          intro hl
          have : memN y.2.2 (x.2.2 :: seen) = memN y.2.2 seen := by
            rw [Bool.eq_iff_iff, memN_iff, memN_iff]
            have := hl y (by simp)
            simp [this]
          simp only [leftOf, this, ih (fun z hz => hl z (by simp [hz]))]
      simp only [leftOf, h1, h2, h3 r hno]
      exact .refl _
    · have her : e ∈ r := (List.mem_cons.1 hm1).resolve_left (fun h => hx h.symm)
      have hne : x.2.2 ≠ e.2.2 := fun h => hno e her h.symm
      have hmx : memN x.2.2 (e.2.2 :: seen) = memN x.2.2 seen := by
        rw [Bool.eq_iff_iff, memN_iff, memN_iff]; simp [hne]
      have ih := leftOf_cons hn.2 (e := e) (seen := seen) (mem_leftOf.2 ⟨her, hm2⟩)
      simp only [leftOf, hmx]
      split
      · exact ih
      · exact (ih.cons x).trans (.swap _ _ _)
theorem allBefore_of {c : Nat} : ∀ {es : List (AV × AV × Nat)}, (∀ x ∈ es, x.2.2 < c) → allBefore c es = true
  | [], _ => rfl
  | e :: r, h => by
    simp only [allBefore, blt_t (h e (by simp))]
    exact allBefore_of fun x hx => h x (by simp [hx])
theorem nextKnown_of {c : Nat} {seen : List Nat} {es : List (AV × AV × Nat)} (h : ∀ x ∈ es, x.2.2 < c) : nextKnown c seen es = true := by
  cases seen with
  | nil => rfl
  | cons s r =>
    cases es with
    | nil => rfl
    | cons e l => simp only [nextKnown, someBefore, blt_t (h e (by simp))]
theorem nextOuts_map {h : T AO} {it m c : Nat} {seen : List Nat} {es : List (AV × AV × Nat)} {sh : KSh} (h1 : h.get it = some (.miter (some m) c seen c)) (h2 : h.get m = some (.map es c sh)) (hlt : ∀ x ∈ es, x.2.2 < c) :
    nextOuts (.ptr it 0) h = match leftOf seen es with
      | [] => some [(.tup [.bool false], h)]
      | l => some (l.map fun e => (.tup [.bool true, e.1, e.2.1], h.set it (.miter (some m) c (e.2.2 :: seen) c))) := by
  unfold nextOuts
  simp only [h1, h2, allBefore_of (fun x hx => hlt x (mem_leftOf.1 hx).1), nextKnown_of hlt]
  rfl
theorem findStamp_of : ∀ {es : List (AV × AV × Nat)}, (es.map (·.2.2)).Nodup → ∀ {e : AV × AV × Nat}, e ∈ es → findStamp e.2.2 es = some (e.1, e.2.1)
  | [], _, e, he => by cases he
  | (k, v, n) :: r, hn, e, he => by
    simp only [List.map_cons, List.nodup_cons] at hn
    simp only [findStamp]
    by_cases hx : (k, v, n) = e
    · subst hx; simp
    · have her : e ∈ r := (List.mem_cons.1 he).resolve_left (fun h => hx h.symm)
      have : n ≠ e.2.2 := fun h => hn.1 (h ▸ List.mem_map_of_mem her)
      have hb : Nat.beq n e.2.2 = false := by
        cases hb : Nat.beq n e.2.2 with
        | false => rfl
        | true => exact absurd (eq_of_beq' hb) this
      rw [hb]
      exact findStamp_of hn.2 her

/-! the sum -/
theorem sumUsed_perm {h : T AO} {a b : List (AV × AV × Nat)} (hp : a.Perm b) : sumUsed h a = sumUsed h b := by
  induction hp with
  | nil => rfl
  | cons x _ ih => simp only [sumUsed, ih]
  | swap x y l =>
    simp only [sumUsed]
    cases usedOf h x.2.1 <;> cases usedOf h y.2.1 <;> cases sumUsed h l <;> simp [Nat.add_left_comm]
  | trans _ _ ih1 ih2 => exact ih1.trans ih2

def dSectors : DF := ⟨7,5,(.seq (.ops [⟨[⟨none,.mov,[.c (.int .i64 (.ofNat 0))]⟩],[(2,0)],.nop⟩]) (.seq (.ops [⟨[⟨none,.mov,[.t 0]⟩,⟨none,.bin .add,[.e 0,.c (.int .i64 (.ofNat 64))]⟩,⟨none,.bin .sub,[.e 0,.c (.int .i64 (.ofNat 1))]⟩,⟨none,.bin .quo,[.e 0,.c (.int .i64 (.ofNat 64))]⟩,⟨none,.mov,[.e 0]⟩],[(2,0)],.nop⟩]) .ret)),[.t 2]⟩
def dUsedBody (sec : Nat) : DC := .seq (.ops [⟨[],[],.nx (some 13) (.t 12)⟩,⟨[⟨none,.ext 0,[.t 13]⟩],[(14,0)],.nop⟩]) (.seq (.cond (.t 14) .skip (.exit 0)) (.block 1 (.seq (.ops [⟨[⟨none,.entm,[.t 12]⟩,⟨none,.ext 1,[.e 0]⟩,⟨none,.mov,[.e 0]⟩],[(5,0)],.nop⟩]) (.ops [⟨[⟨none,.mov,[.t 3]⟩,⟨none,.mov,[.t 5]⟩,⟨none,.nilc,[.e 0]⟩,⟨none,.fa 0,[.e 0]⟩,⟨none,.ld1,[.e 0]⟩,⟨none,.lenl,[.e 0]⟩],[(17,5)],.call (some 23) none sec [.e 0]⟩,⟨[⟨none,.bin .add,[.t 17,.t 23]⟩,⟨none,.mov,[.e 0]⟩],[(3,0)],.nop⟩]))))
def dUsedEnd : DC := .seq (.ops [⟨[⟨none,.mov,[.t 3]⟩,⟨none,.mov,[.e 0]⟩],[(2,0)],.nop⟩]) .ret
def dUsed (sec : Nat) : DF := ⟨26,8548525,(.seq (.ops [⟨[⟨none,.mov,[.c (.int .i64 (.ofNat 0))]⟩],[(2,0)],.nop⟩]) (.seq (.seq (.ops [⟨[⟨none,.mov,[.t 0]⟩,⟨none,.eqv false .ptr,[.e 0,.c .pnil]⟩],[(7,0)],.nop⟩]) (.cond (.t 7) (.seq (.ops [⟨[⟨none,.mov,[.c (.int .i64 (.ofNat 0))]⟩],[(2,0)],.nop⟩]) .ret) .skip)) (.seq (.ops [⟨[⟨none,.mov,[.c (.int .i64 (.ofNat 0))]⟩],[(3,0)],.nop⟩]) (.seq (.seq (.ops [⟨[⟨none,.mov,[.t 0]⟩,⟨none,.nilc,[.e 0]⟩,⟨none,.fa 0,[.e 0]⟩,⟨none,.ld1,[.e 0]⟩],[],.s (some 12) none (.rngm) [.e 0]⟩]) (.block 0 (.loop (dUsedBody sec)))) dUsedEnd)))),[.t 2]⟩

attribute [local simp] step stepRun stepC stepC1 doSeg doFin finish evalQ guardOk evalXs evalX writeOuts leave_ret leave_end Fin.dst qop qMov qBin qUn qConv qIa qIap qLd1 qExt qNilc qFa qEqv eqAny flatEq evalQs_nil evalQs_cons T.get_set nth_zero nth_succ endsR_go endsR_done endsR_fork bin kEq exitTo retTo tuple results stepRet callFn sop enter dUsedBody dUsedEnd
theorem i64_add {a b : Nat} (h : a + b < 9223372036854775808) : fwrap .i64 (Int.add (.ofNat a) (.ofNat b)) = .ofNat (a + b) := by
  show (match Nat.blt (a + b) 9223372036854775808 with | true => Int.ofNat (a + b) | false => _) = _
  rw [blt_t h]
theorem load1_congr {h H : T AO} {id off : Nat} (he : H.get id = h.get id) : load1 H id off = load1 h id off := by
  unfold load1; rw [he]
theorem load1_ne {h : T AO} {id it off : Nat} {v : AV} (hl : load1 h id off = some v) (hfr : h.get it = none) : id ≠ it := by
  rintro rfl
  unfold load1 at hl
  rw [hfr] at hl
  cases hl
theorem usedOf_some {h : T AO} {v : AV} {a : Nat} (hu : usedOf h v = some a) : ∃ id off x ln, v = .ptr id off ∧ load1 h id off = some x ∧ qLenl [x] h = some (.int .i64 (.ofNat ln)) ∧ a = (ln + 63) / 64 := by
  unfold usedOf at hu
  split at hu
  · rename_i id off
    split at hu
    · rename_i a' b' n c' hl
      cases hu
      exact ⟨id, off, _, n, rfl, hl, rfl, rfl⟩
    · rename_i hl
      cases hu
      exact ⟨id, off, _, 0, rfl, hl, rfl, rfl⟩
    · cases hu
  · cases hu
theorem i64_sec {n : Nat} (h : n < 4611686018427387904) : Int.tdiv (fwrap .i64 (Int.sub (fwrap .i64 (Int.add (.ofNat n) (.ofNat 64))) (.ofNat 1))) (.ofNat 64) = .ofNat ((n + 63) / 64) := by
  rw [i64_add (by omega)]
  have : Int.sub (.ofNat (n + 64)) (.ofNat 1) = .ofNat (n + 63) := by
    show ((n + 64 : Nat) : Int) - 1 = ((n + 63 : Nat) : Int)
    omega
  rw [this]
  have : fwrap .i64 (.ofNat (n + 63)) = .ofNat (n + 63) := by
    show (match Nat.blt (n + 63) 9223372036854775808 with | true => Int.ofNat (n + 63) | false => _) = _
    rw [blt_t (by omega)]
  rw [this]
  rfl
theorem i64_id {n : Nat} (h : n < 9223372036854775808) : fwrap .i64 (.ofNat n) = .ofNat n := by
  show (match Nat.blt n 9223372036854775808 with | true => Int.ofNat n | false => _) = _
  rw [blt_t h]
theorem used_loop {h : T AO} {it m c f sec : Nat} {es : List (AV × AV × Nat)} {sh : KSh} (hft : ft.get f = some (dUsed sec)) (hsec : ft.get sec = some dSectors) (hnb : big.get sec = none) (hm : h.get m = some (.map es c sh)) (hmi : m ≠ it) (hlt : ∀ x ∈ es, x.2.2 < c) (hnd : (es.map (·.2.2)).Nodup)
    {Q : AV → T AO → Nat → Prop} {nx2 total : Nat} (htot : total < 1073741824) (hfr : h.get it = none) : ∀ (k : Nat) (seen : List Nat) (n rem : Nat) (tm : T AV) (H : T AO), (leftOf seen es).length = k → sumUsed h (leftOf seen es) = some rem → n + rem = total → (∀ i, i ≠ it → H.get i = h.get i) → H.get it = some (.miter (some m) c seen c) →
      tm.get 3 = some (.int .i64 (.ofNat n)) → tm.get 12 = some (.ptr it 0) → (∀ H', (∀ i, i ≠ it → H'.get i = h.get i) → Q (.int .i64 (.ofNat total)) H' nx2) →
      Ends ft big Q ⟨⟨f, tm, [.c (dUsedBody sec), .lp (dUsedBody sec), .blk 0, .c dUsedEnd], none, [], false⟩, [], H, nx2⟩ := by
  intro k
  induction k with
  | zero =>
    intro seen n rem tm H hk hs hn hH hit h3 h12 hQ
    have hl : leftOf seen es = [] := List.eq_nil_of_length_eq_zero hk
    rw [hl] at hs
    cases hs
    have hno := nextOuts_map hit (by rw [hH m hmi]; exact hm) hlt
    rw [hl] at hno
    apply ends_of; simp [-Int.ofNat_eq_natCast, h12, hno]
    apply ends_of; simp [-Int.ofNat_eq_natCast]
    apply ends_of; simp [-Int.ofNat_eq_natCast]
    apply ends_of; simp [-Int.ofNat_eq_natCast]
    apply ends_of; simp [-Int.ofNat_eq_natCast, h3]
    apply ends_of; simp [-Int.ofNat_eq_natCast]
    apply ends_of; simp [-Int.ofNat_eq_natCast, hft, dUsed]
    have : n = total := by omega
    subst this
    exact hQ H hH
  | succ k ih =>
    intro seen n rem tm H hk hs hn hH hit h3 h12 hQ
    have hno := nextOuts_map hit (by rw [hH m hmi]; exact hm) hlt
    have hno2 : nextOuts (.ptr it 0) H = some ((leftOf seen es).map fun e => (.tup [.bool true, e.1, e.2.1], H.set it (.miter (some m) c (e.2.2 :: seen) c))) := by
      rw [hno]
      cases hl : leftOf seen es with
      | nil => rw [hl] at hk; cases hk
      | cons x r => rfl
    apply ends_of; simp [-Int.ofNat_eq_natCast, h12, hno2]
    rintro s k0 v0 st hmem rfl
    have hp := leftOf_cons hnd hmem
    rw [sumUsed_perm hp] at hs
    simp only [sumUsed] at hs
    split at hs
    · rename_i a ha
      split at hs
      · rename_i b hb
        cases hs
        obtain ⟨id, off, x, ln, rfl, hl, hln, rfl⟩ := usedOf_some ha
        have hne := load1_ne hl hfr
        have hl2 : load1 (H.set it (.miter (some m) c (st :: seen) c)) id off = some x := by
          rw [load1_congr (h := h)]
          · exact hl
          · rw [T.get_set_other _ _ hne.symm, hH id hne]
        have hent : qEntm [.ptr it 0] (H.set it (.miter (some m) c (st :: seen) c)) = some (.tup [k0, .ptr id off]) := by
          unfold qEntm
          simp [T.get_set, Ne.symm hmi, hH m hmi, hm, findStamp_of hnd (mem_leftOf.1 hmem).1]
        have hn' : n + ((ln + 63) / 64 + b) = total := hn
        have hlnb : ln < 4611686018427387904 := by omega
        have hlen2 : qLenl [x] (H.set it (.miter (some m) c (st :: seen) c)) = some (.int .i64 (.ofNat ln)) := hln
        apply ends_of; simp [-Int.ofNat_eq_natCast]
        apply ends_of; simp [-Int.ofNat_eq_natCast]
        apply ends_of; simp [-Int.ofNat_eq_natCast]
        apply ends_of; simp [-Int.ofNat_eq_natCast]
        apply ends_of; simp [-Int.ofNat_eq_natCast, h12, hent]
        apply ends_of; simp [-Int.ofNat_eq_natCast, h3, hl2, hlen2, hnb, hsec, dSectors, treeOf_one]
        apply ends_of; simp [-Int.ofNat_eq_natCast]
        have hq : ((fwrap .i64 ((fwrap .i64 (Int.ofNat ln + 64)).sub 1)).tdiv 64) = .ofNat ((ln + 63) / 64) := i64_sec hlnb
        have h64 : iEq 64 0 = false := rfl
        have hid : fwrap .i64 (.ofNat ((ln + 63) / 64)) = .ofNat ((ln + 63) / 64) := i64_id (by omega)
        have hadd : fwrap .i64 (Int.ofNat n + Int.ofNat ((ln + 63) / 64)) = .ofNat (n + (ln + 63) / 64) := i64_add (by omega)
        apply ends_of; simp [-Int.ofNat_eq_natCast, intBin, hq, h64, hid]
        apply ends_of; simp [-Int.ofNat_eq_natCast]
        apply ends_of; simp [-Int.ofNat_eq_natCast, hsec, dSectors]
        apply ends_of; simp [-Int.ofNat_eq_natCast, intBin, hadd]
        apply ends_of; simp [-Int.ofNat_eq_natCast]
        apply ends_of; simp [-Int.ofNat_eq_natCast]
        refine ih (st :: seen) (n + (ln + 63) / 64) b _ _ ?_ hb (by omega) ?_ ?_ (by simp) (by simp [h12]) hQ
        · have := hp.length_eq
          simp only [List.length_cons] at this
          omega
        · intro i hi
          rw [T.get_set_other _ _ hi.symm, hH i hi]
        · simp
      · cases hs
    · cases hs

theorem used_ends {h : T AO} {d m c f sec nx total : Nat} {es : List (AV × AV × Nat)} {sh : KSh} (hft : ft.get f = some (dUsed sec)) (hsec : ft.get sec = some dSectors) (hnb : big.get sec = none) (hd : load1 h d 0 = some (.mp m)) (hm : h.get m = some (.map es c sh)) (hlt : ∀ x ∈ es, x.2.2 < c) (hnd : (es.map (·.2.2)).Nodup)
    (hs : sumUsed h es = some total) (htot : total < 1073741824) (hfr : h.get nx = none) :
    Ends ft big (fun v h' nx' => v = .int .i64 (.ofNat total) ∧ HLe h h' ∧ nx' = nx + 1) (entry f (dUsed sec) [.ptr d 0] h nx) := by
  have hmi : m ≠ nx := by rintro rfl; rw [hfr] at hm; cases hm
  unfold entry dUsed
  rw [treeOf_one]
  apply ends_of; simp [-Int.ofNat_eq_natCast]
  apply ends_of; simp [-Int.ofNat_eq_natCast]
  apply ends_of; simp [-Int.ofNat_eq_natCast]
  apply ends_of; simp [-Int.ofNat_eq_natCast]
  apply ends_of; simp [-Int.ofNat_eq_natCast]
  apply ends_of; simp [-Int.ofNat_eq_natCast]
  apply ends_of; simp [-Int.ofNat_eq_natCast]
  apply ends_of; simp [-Int.ofNat_eq_natCast, hd, sRngm, hm, newObj]
  apply ends_of; simp [-Int.ofNat_eq_natCast]
  apply ends_of; simp [-Int.ofNat_eq_natCast]
  refine used_loop (h := h) (it := nx) (m := m) (c := c) (es := es) (sh := sh) (total := total) hft hsec hnb hm hmi hlt hnd htot hfr es.length [] 0 total _ _ (by rw [leftOf_nil]) (by rw [leftOf_nil]; exact hs) (by omega) ?_ (by simp) (by simp) (by simp) ?_
  · intro i hi
    rw [T.get_set_other _ _ hi.symm]
  · intro H' hH'
    refine ⟨rfl, ?_, rfl⟩
    intro i x hx
    refine ⟨x, ?_, OLe.refl x⟩
    rw [hH' i]
    · exact hx
    · rintro rfl; rw [hfr] at hx; cases hx

theorem hUsed_ok (hft : CodeOk P ft) (hmix : P.follows .mixedOrders = true) {f sec : Nat} (hdf : ft.get f = some (dUsed sec)) (hsec : ft.get sec = some dSectors) : HOk P ft f hUsed := by
  intro B w0 ρ h nx w args us v h' nx' R ha hh
  unfold hUsed at hh
  split at hh
  · rename_i d
    split at hh
    · rename_i m hd
      split at hh
      · rename_i es c sh hm
        split at hh
        · rename_i total hs
          split at hh
          · rename_i ht
            cases hh
            obtain ⟨g, hρ, _, _⟩ := R.obj _ _ hm
            obtain ⟨_, _, _, _, _, _, hnd, hlt, _⟩ := R.map hm hρ
            have E := used_ends (ft := ft) (big := .nil) (sec := sec) hdf hsec rfl hd hm hlt hnd hs (lt_of_blt ht) (fresh R (Nat.le_refl _))
            intro cs
            obtain ⟨e, w2, fr, ⟨u, ρ', v', h2, nx2, e1, e2, e3, e4, rfl, e6, rfl⟩, e7⟩ := calls_of_ends hft (big := .nil) bigOk_nil hmix hdf R ha E cs
            exact ⟨e, w2, fr, ⟨u, ρ', e1, e2, e3, e4.sub e6 (Nat.le_refl _)⟩, e7⟩
          · cases hh
        · cases hh
      · cases hh
    · cases hh
  · cases hh
end Go.Md
end
section
/- disk.settle: whatever the order of the loose sectors, those that go are gone, the others stay. -/
namespace Go.Md
variable {P : Program} {ft : FT} {big : Big}

def dAll : DF := ⟨3,4,(.seq (.ops [⟨[⟨none,.mov,[.c (.bool false)]⟩],[(2,0)],.nop⟩]) (.seq (.ops [⟨[⟨none,.mov,[.c (.bool true)]⟩],[(2,0)],.nop⟩]) .ret)),[.t 2]⟩
def dCut1 (sec : Nat) : DF := ⟨8,91,(.seq (.ops [⟨[⟨none,.mov,[.c (.bool false)]⟩],[(3,0)],.nop⟩]) (.seq (.ops [⟨[⟨none,.mov,[.t 0]⟩,⟨none,.ld1,[.t 1]⟩],[(4,1)],.call (some 6) none sec [.e 0]⟩,⟨[⟨none,.bin .geq,[.t 4,.t 6]⟩,⟨none,.mov,[.e 0]⟩],[(3,0)],.nop⟩]) .ret)),[.t 3]⟩
def dSetBody : DC := .seq (.ops [⟨[],[],.nx (some 12) (.t 11)⟩,⟨[⟨none,.ext 0,[.t 12]⟩],[(13,0)],.nop⟩]) (.seq (.cond (.t 13) .skip (.exit 0)) (.block 1 (.seq (.ops [⟨[⟨none,.entm,[.t 11]⟩,⟨none,.ext 0,[.e 0]⟩],[(15,0)],.s (some 6) none (.alloc [(.str 0 0),(.int .i64 (.ofNat 0))]) []⟩,⟨[],[],.s none none (.st 2) [.t 6,.t 15]⟩]) (.seq (.ops [⟨[⟨none,.fa 0,[.t 6]⟩,⟨none,.ld1,[.e 0]⟩,⟨none,.mov,[.t 1]⟩,⟨none,.bin .eql,[.e 1,.e 0]⟩,⟨none,.mov,[.e 0]⟩,⟨(some (.e 0,true)),.mov,[.t 2]⟩,⟨(some (.e 1,true)),.fa 1,[.t 6]⟩,⟨(some (.e 2,true)),.ld1,[.e 0]⟩],[(20,3)],.callv (some 24) (some (.e 3,true)) (.e 2) [.e 0]⟩,⟨[⟨none,.pick,[.t 20,.t 24,.c (.bool false)]⟩],[(25,0)],.nop⟩]) (.cond (.t 25) (.dr [.q 0 26 ⟨none,.mov,[.t 0]⟩,.q 1 27 ⟨none,.nilc,[.t 26]⟩,.q 2 28 ⟨none,.fa 1,[.t 27]⟩,.q 3 29 ⟨none,.ld1,[.t 28]⟩,.q 4 30 ⟨none,.ldn 2,[.t 6]⟩,.s 5 (.s none none (.del (.agg [.str,.int .i64])) [.t 29,.t 30]) []]) .skip)))))
def dSettle : DF := ⟨31,2131802183,(.seq (.ops [⟨[⟨none,.mov,[.t 0]⟩,⟨none,.nilc,[.e 0]⟩,⟨none,.fa 1,[.e 0]⟩,⟨none,.ld1,[.e 0]⟩],[],.s (some 11) none (.rngm) [.e 0]⟩]) (.block 0 (.loop dSetBody))),[]⟩

attribute [local simp] step stepRun stepC stepC1 doSeg doFin finish evalQ guardOk evalXs evalX writeOuts leave_ret leave_end Fin.dst qop qMov qBin qUn qConv qIa qIap qLd1 qExt qNilc qFa qEqv qPick eqAny flatEq evalQs_nil evalQs_cons T.get_set nth_zero nth_succ endsR_go endsR_done endsR_fork bin strBin kEq exitTo retTo tuple results stepRet callFn sop enter stepDr callVal recheck

theorem ends_ret {Q : AV → T AO → Nat → Prop} {f : Nat} {df : DF} {tm : T AV} {todo : List AI} {fr fr' : AF} {cs : List AF} {H : T AO} {nx : Nat} {l : List AV} (hft : ft.get f = some df) (hr : results H tm df.res = some l) (hf : finish fr (Go.Md.tuple l) = some fr') (hE : Ends ft big Q ⟨fr', cs, H, nx⟩) :
    Ends ft big Q ⟨⟨f, tm, todo, none, [], true⟩, fr :: cs, H, nx⟩ := by
  refine .go (s' := ⟨fr', cs, H, nx⟩) ?_ hE
  have h1 : step ft big ⟨⟨f, tm, todo, none, [], true⟩, fr :: cs, H, nx⟩ = stepRet ft ⟨f, tm, todo, none, [], true⟩ (fr :: cs) H nx := rfl
  rw [h1]
  unfold stepRet
  simp only [hft, hr, retTo, hf]

/-- what a closure answers -/
def CallsTo (ft : FT) (big : Big) (Q : AV → T AO → Nat → Prop) (ok : T AO → Prop) (fn : Nat) (cap : List AV) (z : Nat) : Prop :=
  ∀ (fr fr' : AF) (cs : List AF) (H : T AO) (nx j : Nat), ok H → finish fr (.bool (Nat.ble z j)) = some fr' → Ends ft big Q ⟨fr', cs, H, nx⟩ → EndsR ft big Q (callFn ft big fr cs H nx fn (.int .i64 (.ofNat j) :: cap))
theorem callsTo_all {Q : AV → T AO → Nat → Prop} {fn : Nat} (hft : ft.get fn = some dAll) (hb : big.get fn = none) : CallsTo ft big Q (fun _ => True) fn [] 0 := by
  intro fr fr' cs H nx j _ hf hE
  simp [-Int.ofNat_eq_natCast, hb, hft, dAll, treeOf_one]
  apply ends_of; simp [-Int.ofNat_eq_natCast]
  apply ends_of; simp [-Int.ofNat_eq_natCast]
  apply ends_of; simp [-Int.ofNat_eq_natCast]
  have : Nat.ble 0 j = true := ble_t (Nat.zero_le j)
  rw [this] at hf
  exact ends_ret hft (l := [.bool true]) (by simp [dAll]) hf hE
theorem callsTo_cut {Q : AV → T AO → Nat → Prop} {fn sec sz z0 : Nat} (hft : ft.get fn = some (dCut1 sec)) (hb : big.get fn = none) (hsec : ft.get sec = some dSectors) (hsb : big.get sec = none) (hz : z0 < 1073741824) :
    CallsTo ft big Q (fun H => load1 H sz 0 = some (.int .i64 (.ofNat z0))) fn [.ptr sz 0] ((z0 + 63) / 64) := by
  intro fr fr' cs H nx j hok hf hE
  have hq : ((fwrap .i64 ((fwrap .i64 (Int.ofNat z0 + 64)).sub 1)).tdiv 64) = .ofNat ((z0 + 63) / 64) := i64_sec (by omega)
  have h64 : iEq 64 0 = false := rfl
  have hid : fwrap .i64 (.ofNat ((z0 + 63) / 64)) = .ofNat ((z0 + 63) / 64) := i64_id (by omega)
  have hcmp : Bool.not (iLt (.ofNat j) (.ofNat ((z0 + 63) / 64))) = Nat.ble ((z0 + 63) / 64) j := by
    show Bool.not (Nat.blt j ((z0 + 63) / 64)) = _
    by_cases h : j < (z0 + 63) / 64
    · rw [blt_t h, ble_f (by omega)]; rfl
    · rw [blt_f h, ble_t (by omega)]; rfl
  simp [-Int.ofNat_eq_natCast, hb, hft, dCut1, treeOf_two]
  apply ends_of; simp [-Int.ofNat_eq_natCast]
  apply ends_of; simp [-Int.ofNat_eq_natCast, hok, hsb, hsec, dSectors, treeOf_one]
  apply ends_of; simp [-Int.ofNat_eq_natCast]
  apply ends_of; simp [-Int.ofNat_eq_natCast, intBin, hq, h64, hid]
  apply ends_of; simp [-Int.ofNat_eq_natCast]
  apply ends_of; simp [-Int.ofNat_eq_natCast, hsec, dSectors]
  apply ends_of; simp [-Int.ofNat_eq_natCast, intBin]
  apply ends_of; simp [-Int.ofNat_eq_natCast]
  rw [← hcmp] at hf
  exact ends_ret hft (l := [.bool (Bool.not (iLt (.ofNat j) (.ofNat ((z0 + 63) / 64))))]) (by simp [-Int.ofNat_eq_natCast, dCut1]) hf hE

/-! the sectors that are there while some have been looked at -/
noncomputable def curr (a n z : Nat) (seen : List Nat) : List (AV × AV × Nat) → List (AV × AV × Nat)
  | [] => []
  | e :: r => match dropOf a n z e.1 with
    | some true => (match memN e.2.2 seen with
      | true => curr a n z seen r
      | false => e :: curr a n z seen r)
    | _ => e :: curr a n z seen r
theorem curr_nil {a n z : Nat} : ∀ (es : List (AV × AV × Nat)), curr a n z [] es = es
  | [] => rfl
  | e :: r => by
    simp only [curr, memN, curr_nil r]
    split <;> rfl
theorem curr_sub {a n z : Nat} {seen : List Nat} {x : AV × AV × Nat} : ∀ {es : List (AV × AV × Nat)}, x ∈ curr a n z seen es → x ∈ es
  | [], h => h
  | e :: r, h => by
    simp only [curr] at h
    split at h
    · split at h
      · exact List.mem_cons_of_mem _ (curr_sub h)
      · rcases List.mem_cons.1 h with rfl | h
        · simp
        · exact List.mem_cons_of_mem _ (curr_sub h)
    · rcases List.mem_cons.1 h with rfl | h
      · simp
      · exact List.mem_cons_of_mem _ (curr_sub h)
theorem curr_sublist {a n z : Nat} {seen : List Nat} : ∀ (es : List (AV × AV × Nat)), (curr a n z seen es).Sublist es
  | [] => .slnil
  | e :: r => by
    simp only [curr]
    split
    · split
      · exact (curr_sublist r).cons _
      · exact (curr_sublist r).cons_cons _
    · exact (curr_sublist r).cons_cons _
theorem leftOf_curr {a n z : Nat} {seen : List Nat} : ∀ (es : List (AV × AV × Nat)), leftOf seen (curr a n z seen es) = leftOf seen es
  | [] => rfl
  | e :: r => by
    simp only [curr]
    split
    · split
      · rename_i hm
        rw [leftOf_curr r]
        simp only [leftOf, hm]
      · rename_i hm
        simp only [leftOf, hm, leftOf_curr r]
    · simp only [leftOf, leftOf_curr r]
theorem curr_end {a n z : Nat} {seen : List Nat} : ∀ {es l : List (AV × AV × Nat)}, leftOf seen es = [] → dropFrom a n z es = some l → curr a n z seen es = l
  | [], l, _, h => by cases h; rfl
  | e :: r, l, hl, h => by
    simp only [dropFrom] at h
    have hm : memN e.2.2 seen = true ∧ leftOf seen r = [] := by
      simp only [leftOf] at hl
      split at hl
      · rename_i hm; exact ⟨hm, hl⟩
      · cases hl
    split at h
    · rename_i d hd
      split at h
      · rename_i l' hl'
        cases h
        simp only [curr, hd, curr_end hm.2 hl', hm.1]
        cases d <;> rfl
      · cases h
    · cases h
theorem memN_cons_ne {x st : Nat} {seen : List Nat} (h : x ≠ st) : memN x (st :: seen) = memN x seen := by
  rw [Bool.eq_iff_iff, memN_iff, memN_iff]; simp [h]
/-- one more looked at: it stays -/
theorem curr_stay {a n z : Nat} {seen : List Nat} : ∀ {es : List (AV × AV × Nat)}, (es.map (·.2.2)).Nodup → ∀ {e : AV × AV × Nat}, e ∈ es → dropOf a n z e.1 ≠ some true → curr a n z (e.2.2 :: seen) es = curr a n z seen es
  | [], _, e, he, _ => rfl
  | x :: r, hn, e, he, hd => by
    simp only [List.map_cons, List.nodup_cons] at hn
    rcases List.mem_cons.1 he with rfl | her
    · have h3 : curr a n z (e.2.2 :: seen) r = curr a n z seen r := by
        have : ∀ l : List (AV × AV × Nat), (∀ y ∈ l, y.2.2 ≠ e.2.2) → curr a n z (e.2.2 :: seen) l = curr a n z seen l := by
          intro l
          induction l with
          | nil => intro _; rfl
          | cons y l ih => intro hl; simp only [curr, memN_cons_ne (hl y (by simp)), ih (fun z hz => hl z (by simp [hz]))]
        exact this r fun y hy h => hn.1 (h ▸ List.mem_map_of_mem hy)
      simp only [curr, h3]
    · have hne : x.2.2 ≠ e.2.2 := fun h => hn.1 (h ▸ List.mem_map_of_mem her)
      simp only [curr, memN_cons_ne hne, curr_stay hn.2 her hd]
/-- one more looked at: it goes -/
theorem curr_go {a n z : Nat} {seen : List Nat} : ∀ {es : List (AV × AV × Nat)}, (es.map (·.2.2)).Nodup → (es.map (·.1)).Nodup → ∀ {e : AV × AV × Nat}, e ∈ es → e.2.2 ∉ seen → dropOf a n z e.1 = some true → curr a n z (e.2.2 :: seen) es = mapDel e.1 (curr a n z seen es)
  | [], _, _, e, he, _, _ => by cases he
  | x :: r, hn, hk, e, he, hs, hd => by
    simp only [List.map_cons, List.nodup_cons] at hn hk
    rcases List.mem_cons.1 he with rfl | her
    · have h3 : curr a n z (e.2.2 :: seen) r = curr a n z seen r := by
        have : ∀ l : List (AV × AV × Nat), (∀ y ∈ l, y.2.2 ≠ e.2.2) → curr a n z (e.2.2 :: seen) l = curr a n z seen l := by
          intro l
          induction l with
          | nil => intro _; rfl
          | cons y l ih => intro hl; simp only [curr, memN_cons_ne (hl y (by simp)), ih (fun z hz => hl z (by simp [hz]))]
        exact this r fun y hy h => hn.1 (h ▸ List.mem_map_of_mem hy)
      have h1 : memN e.2.2 seen = false := memN_false.2 hs
      have h2 : memN e.2.2 (e.2.2 :: seen) = true := memN_iff.2 (by simp)
      simp only [curr, h3, hd, h1, h2, mapDel, AV.beq_refl]
    · have hne : x.2.2 ≠ e.2.2 := fun h => hn.1 (h ▸ List.mem_map_of_mem her)
      have hkne : AV.beq e.1 x.1 = false := by
        cases hb : AV.beq e.1 x.1 with
        | false => rfl
        | true => exact absurd ((AV.eq_of_beq _ _ hb) ▸ List.mem_map_of_mem her) hk.1
      have ih := curr_go hn.2 hk.2 her hs hd
      simp only [curr, memN_cons_ne hne, ih]
      cases dropOf a n z x.1 with
      | none => simp only [mapDel, hkne]
      | some d =>
        cases d with
        | false => simp only [mapDel, hkne]
        | true =>
          cases memN x.2.2 seen with
          | true => rfl
          | false => simp only [mapDel, hkne]
theorem dropFrom_mem {a n z : Nat} : ∀ {es l : List (AV × AV × Nat)}, dropFrom a n z es = some l → ∀ e ∈ es, ∃ d, dropOf a n z e.1 = some d
  | [], _, _, e, he => by cases he
  | x :: r, l, h, e, he => by
    simp only [dropFrom] at h
    split at h
    · rename_i d hd
      split at h
      · rename_i l' hl'
        rcases List.mem_cons.1 he with rfl | he
        · exact ⟨d, hd⟩
        · exact dropFrom_mem hl' e he
      · cases h
    · cases h

/-- the heaps of the loop -/
structure SetH (h H : T AO) (it m c : Nat) (seen : List Nat) (es : List (AV × AV × Nat)) : Prop where
  low : ∀ i, i < it → i ≠ m → H.get i = h.get i
  map : H.get m = some (.map es c (.agg [.str, .int .i64]))
  iter : H.get it = some (.miter (some m) c seen c)
def dSetHalf : DC := .seq (.ops [⟨[⟨none,.fa 0,[.t 6]⟩,⟨none,.ld1,[.e 0]⟩,⟨none,.mov,[.t 1]⟩,⟨none,.bin .eql,[.e 1,.e 0]⟩,⟨none,.mov,[.e 0]⟩,⟨(some (.e 0,true)),.mov,[.t 2]⟩,⟨(some (.e 1,true)),.fa 1,[.t 6]⟩,⟨(some (.e 2,true)),.ld1,[.e 0]⟩],[(20,3)],.callv (some 24) (some (.e 3,true)) (.e 2) [.e 0]⟩,⟨[⟨none,.pick,[.t 20,.t 24,.c (.bool false)]⟩],[(25,0)],.nop⟩]) (.cond (.t 25) (.dr [.q 0 26 ⟨none,.mov,[.t 0]⟩,.q 1 27 ⟨none,.nilc,[.t 26]⟩,.q 2 28 ⟨none,.fa 1,[.t 27]⟩,.q 3 29 ⟨none,.ld1,[.t 28]⟩,.q 4 30 ⟨none,.ldn 2,[.t 6]⟩,.s 5 (.s none none (.del (.agg [.str,.int .i64])) [.t 29,.t 30]) []]) .skip)
theorem settle_half {d m c f a n z fn b bl j nx2 ky : Nat} {cap : List AV} {es : List (AV × AV × Nat)} {Q : AV → T AO → Nat → Prop} {ok : T AO → Prop} (hC : CallsTo ft big Q ok fn cap z) {tm : T AV} {H : T AO} (hokH : ok H)
    (h0 : tm.get 0 = some (.ptr d 0)) (h1 : tm.get 1 = some (.str a n)) (h2 : tm.get 2 = some (.fv fn [] cap)) (h6 : tm.get 6 = some (.ptr ky 0)) (l0 : load1 H ky 0 = some (.str b bl)) (l1 : load1 H ky 1 = some (.int .i64 (.ofNat j))) (l2 : loadCells H ky 0 2 = some [.str b bl, .int .i64 (.ofNat j)])
    (hload : load1 H d 1 = some (.mp m)) (hm : H.get m = some (.map es c (.agg [.str, .int .i64])))
    (hstay : dropOf a n z (.agg [.str b bl, .int .i64 (.ofNat j)]) = some false → ∀ tm' : T AV, tm'.get 0 = tm.get 0 → tm'.get 1 = tm.get 1 → tm'.get 2 = tm.get 2 → tm'.get 11 = tm.get 11 → Ends ft big Q ⟨⟨f, tm', [.c dSetBody, .lp dSetBody, .blk 0], none, [], false⟩, [], H, nx2⟩)
    (hgo : dropOf a n z (.agg [.str b bl, .int .i64 (.ofNat j)]) = some true → ∀ tm' : T AV, tm'.get 0 = tm.get 0 → tm'.get 1 = tm.get 1 → tm'.get 2 = tm.get 2 → tm'.get 11 = tm.get 11 → Ends ft big Q ⟨⟨f, tm', [.c dSetBody, .lp dSetBody, .blk 0], none, [], false⟩, [], H.set m (.map (mapDel (.agg [.str b bl, .int .i64 (.ofNat j)]) es) c (.agg [.str, .int .i64])), nx2⟩) :
    Ends ft big Q ⟨⟨f, tm, [.c dSetHalf, .blk 1, .lp dSetBody, .blk 0], none, [], false⟩, [], H, nx2⟩ := by
  cases hs : sEq b bl a n with
  | false =>
    have hdo : dropOf a n z (.agg [.str b bl, .int .i64 (.ofNat j)]) = some false := by simp only [dropOf, hs]
    apply ends_of; simp [-Int.ofNat_eq_natCast, dSetHalf, h6, l0, h1, hs]
    apply ends_of; simp [-Int.ofNat_eq_natCast]
    apply ends_of; simp [-Int.ofNat_eq_natCast]
    apply ends_of; simp [-Int.ofNat_eq_natCast]
    apply ends_of; simp [-Int.ofNat_eq_natCast]
    apply ends_of; simp [-Int.ofNat_eq_natCast]
    exact hstay hdo _ (by simp) (by simp) (by simp) (by simp)
  | true =>
    have hdo : dropOf a n z (.agg [.str b bl, .int .i64 (.ofNat j)]) = some (Nat.ble z j) := by simp only [dropOf, hs]
    apply ends_of
    simp only [dSetHalf, step, stepRun, stepC, stepC1, doSeg, evalQs_nil, evalQs_cons, evalQ, guardOk, evalXs, evalX, h6, h1, h2, qop, qFa, qLd1, qMov, qBin, bin, strBin, hs, l0, l1, nth_zero, nth_succ, writeOuts, doFin, callVal, Fin.dst, List.nil_append, List.cons_append, Nat.add]
    refine hC _ _ _ _ _ _ hokH (by simp only [finish]; rfl) ?_
    cases hz : Nat.ble z j with
    | false =>
      rw [hz] at hdo
      apply ends_of; simp [-Int.ofNat_eq_natCast]
      apply ends_of; simp [-Int.ofNat_eq_natCast]
      apply ends_of; simp [-Int.ofNat_eq_natCast]
      apply ends_of; simp [-Int.ofNat_eq_natCast]
      apply ends_of; simp [-Int.ofNat_eq_natCast]
      exact hstay hdo _ (by simp) (by simp) (by simp) (by simp)
    | true =>
      rw [hz] at hdo
      apply ends_of; simp [-Int.ofNat_eq_natCast]
      apply ends_of; simp [-Int.ofNat_eq_natCast]
      apply ends_of; simp [-Int.ofNat_eq_natCast]
      apply ends_of; simp [-Int.ofNat_eq_natCast, h0]
      apply ends_of; simp [-Int.ofNat_eq_natCast]
      apply ends_of; simp [-Int.ofNat_eq_natCast]
      apply ends_of; simp [-Int.ofNat_eq_natCast, hload]
      apply ends_of; simp [-Int.ofNat_eq_natCast, qLdn, h6, l2]
      apply ends_of; simp [-Int.ofNat_eq_natCast, sDel, shOk, ksOkL, ksOk, hm, shEq, ksEqL, ksEq]
      apply ends_of; simp [-Int.ofNat_eq_natCast]
      apply ends_of; simp [-Int.ofNat_eq_natCast]
      apply ends_of; simp [-Int.ofNat_eq_natCast]
      apply ends_of; simp [-Int.ofNat_eq_natCast]
      exact hgo hdo _ (by simp) (by simp) (by simp) (by simp)
theorem settle_loop {h : T AO} {it m c f d a n z fn : Nat} {cap : List AV} {es L : List (AV × AV × Nat)} {Q : AV → T AO → Nat → Prop} {ok : T AO → Prop} (hft : ft.get f = some dSettle) (hmi : m < it) (hlt : ∀ x ∈ es, x.2.2 < c) (hnd : (es.map (·.2.2)).Nodup) (hkd : (es.map (·.1)).Nodup)
    (hdrop : dropFrom a n z es = some L) (hC : CallsTo ft big Q ok fn cap z) (hload : load1 h d 1 = some (.mp m)) (hdi : d < it) (hdm : d ≠ m) (hok : ∀ H, (∀ i, i < it → i ≠ m → H.get i = h.get i) → ok H) :
    ∀ (k : Nat) (seen : List Nat) (nx2 : Nat) (tm : T AV) (H : T AO), (leftOf seen es).length = k → it < nx2 → SetH h H it m c seen (curr a n z seen es) →
      tm.get 0 = some (.ptr d 0) → tm.get 1 = some (.str a n) → tm.get 2 = some (.fv fn [] cap) → tm.get 11 = some (.ptr it 0) →
      (∀ H' seen', SetH h H' it m c seen' L → Q .undef H' (nx2 + k)) →
      Ends ft big Q ⟨⟨f, tm, [.c dSetBody, .lp dSetBody, .blk 0], none, [], false⟩, [], H, nx2⟩ := by
  intro k
  induction k with
  | zero =>
    intro seen nx2 tm H hk hin S h0 h1 h2 h11 hQ
    have hl : leftOf seen es = [] := List.eq_nil_of_length_eq_zero hk
    have hno := nextOuts_map S.iter S.map (fun x hx => hlt x (curr_sub hx))
    rw [leftOf_curr, hl] at hno
    have he := curr_end hl hdrop
    apply ends_of; simp [-Int.ofNat_eq_natCast, dSetBody, h11, hno]
    apply ends_of; simp [-Int.ofNat_eq_natCast]
    apply ends_of; simp [-Int.ofNat_eq_natCast]
    apply ends_of; simp [-Int.ofNat_eq_natCast]
    apply ends_of; simp [-Int.ofNat_eq_natCast]
    apply ends_of; simp [-Int.ofNat_eq_natCast, hft, dSettle]
    have := hQ H seen (by rw [← he]; exact S)
    simpa using this
  | succ k ih =>
    intro seen nx2 tm H hk hin S h0 h1 h2 h11 hQ
    have hno := nextOuts_map S.iter S.map (fun x hx => hlt x (curr_sub hx))
    rw [leftOf_curr] at hno
    have hno2 : nextOuts (.ptr it 0) H = some ((leftOf seen es).map fun e => (.tup [.bool true, e.1, e.2.1], H.set it (.miter (some m) c (e.2.2 :: seen) c))) := by
      rw [hno]
      cases hl : leftOf seen es with
      | nil => rw [hl] at hk; cases hk
      | cons x r => rfl
    apply ends_of; simp [-Int.ofNat_eq_natCast, dSetBody, h11, hno2]
    rintro s k0 v0 st hmem rfl
    have hp := leftOf_cons hnd hmem
    obtain ⟨hmes, hns⟩ := mem_leftOf.1 hmem
    obtain ⟨dd, hdd⟩ := dropFrom_mem hdrop _ hmes
    have hdd0 := hdd
    unfold dropOf at hdd
    split at hdd
    · rename_i b bl j hkey
      simp only at hkey
      subst hkey
      simp only [Option.some.injEq] at hdd
      have hmit : m ≠ it := by omega
      have hent : qEntm [.ptr it 0] (H.set it (.miter (some m) c (st :: seen) c)) = some (.tup [.agg [.str b bl, .int .i64 (.ofNat j)], v0]) := by
        have hcm : (AV.agg [.str b bl, .int .i64 (.ofNat j)], v0, st) ∈ curr a n z seen es := by
          have : (AV.agg [.str b bl, .int .i64 (.ofNat j)], v0, st) ∈ leftOf seen (curr a n z seen es) := by rw [leftOf_curr]; exact hmem
          exact (mem_leftOf.1 this).1
        have := findStamp_of (hnd.sublist ((curr_sublist es).map _)) hcm
        unfold qEntm
        simp only [T.get_set, if_neg (Ne.symm hmit), S.map, if_true, Nat.beq_refl]
        simp only at this
        rw [this]
      apply ends_of; simp [-Int.ofNat_eq_natCast]
      apply ends_of; simp [-Int.ofNat_eq_natCast]
      apply ends_of; simp [-Int.ofNat_eq_natCast]
      apply ends_of; simp [-Int.ofNat_eq_natCast]
      apply ends_of; simp [-Int.ofNat_eq_natCast, h11, hent, sAlloc, newObj, treeOf_two]
      apply ends_of; simp [-Int.ofNat_eq_natCast, sSt, storeCells, AV.cells, allOne, AV.one, writeCells]
      have hitn : ∀ i, i < it → i ≠ m → ∀ (A B : AO), (((H.set it (AO.miter (some m) c (st :: seen) c)).set nx2 A).set nx2 B).get i = h.get i := by
        intro i hi him A B
        rw [T.get_set_other _ _ (by omega), T.get_set_other _ _ (by omega), T.get_set_other _ _ (by omega), S.low i hi him]
      have hmn : ∀ (A B : AO), (((H.set it (AO.miter (some m) c (st :: seen) c)).set nx2 A).set nx2 B).get m = some (.map (curr a n z seen es) c (.agg [.str, .int .i64])) := by
        intro A B
        rw [T.get_set_other _ _ (by omega), T.get_set_other _ _ (by omega), T.get_set_other _ _ (by omega), S.map]
      have hkn : (leftOf (st :: seen) es).length = k := by
        have := hp.length_eq
        simp only [List.length_cons] at this
        omega
      refine settle_half (a := a) (n := n) (z := z) (fn := fn) (cap := cap) (m := m) (c := c) (d := d) (ky := nx2) (b := b) (bl := bl) (j := j) (es := curr a n z seen es) hC (hok _ fun i hi him => hitn i hi him _ _) (by simp [h0]) (by simp [h1]) (by simp [h2]) (by simp) ?_ ?_ ?_ ?_ (hmn _ _) ?_ ?_
      · simp [load1, T.get_set, blt_t (show 0 < 2 by decide)]
      · simp [load1, T.get_set, blt_t (show 1 < 2 by decide)]
      · simp [loadCells, readCells, T.get_set]
      · rw [load1_congr (hitn d hdi hdm _ _)]; exact hload
      · intro hd tm' e0 e1 e2 e11
        refine ih (st :: seen) (nx2 + 1) tm' _ hkn (by omega) ⟨fun i hi him => hitn i hi him _ _, ?_, ?_⟩ (by rw [e0]; simp [h0]) (by rw [e1]; simp [h1]) (by rw [e2]; simp [h2]) (by rw [e11]; simp [h11]) ?_
        · rw [hmn, curr_stay hnd hmes (by simp only [hd]; simp)]
        · simp [T.get_set, show nx2 ≠ it by omega]
        · intro H' seen' hS
          have := hQ H' seen' hS
          rw [show nx2 + 1 + k = nx2 + (k + 1) by omega]; exact this
      · intro hd tm' e0 e1 e2 e11
        refine ih (st :: seen) (nx2 + 1) tm' _ hkn (by omega) ⟨fun i hi him => ?_, ?_, ?_⟩ (by rw [e0]; simp [h0]) (by rw [e1]; simp [h1]) (by rw [e2]; simp [h2]) (by rw [e11]; simp [h11]) ?_
        · rw [T.get_set_other _ _ (Ne.symm him)]; exact hitn i hi him _ _
        · rw [T.get_set_same, ← curr_go hnd hkd hmes hns hd]
        · rw [T.get_set_other _ _ hmit]
          simp [T.get_set, show nx2 ≠ it by omega]
        · intro H' seen' hS
          have := hQ H' seen' hS
          rw [show nx2 + 1 + k = nx2 + (k + 1) by omega]; exact this
    · cases hdd

theorem settle_ends {h : T AO} {m c f d a n z fn nx : Nat} {cap : List AV} {es L : List (AV × AV × Nat)} {ok : T AO → Prop} (hft : ft.get f = some dSettle) (hm : h.get m = some (.map es c (.agg [.str, .int .i64]))) (hlt : ∀ x ∈ es, x.2.2 < c) (hnd : (es.map (·.2.2)).Nodup) (hkd : (es.map (·.1)).Nodup)
    (hdrop : dropFrom a n z es = some L) (hload : load1 h d 1 = some (.mp m)) (hlow : ∀ i o, h.get i = some o → i < nx) (hok : ∀ H, (∀ i, i < nx → i ≠ m → H.get i = h.get i) → ok H)
    (hC : ∀ Q, CallsTo ft big Q ok fn cap z) :
    Ends ft big (fun v h' nx' => v = .undef ∧ HLe (h.set m (.map L c (.agg [.str, .int .i64]))) h' ∧ nx' = nx + 1 + es.length) (entry f dSettle [.ptr d 0, .str a n, .fv fn [] cap] h nx) := by
  have hmi := hlow m _ hm
  have hdi : d < nx := by
    unfold load1 at hload
    cases hg : h.get d with
    | none => rw [hg] at hload; cases hload
    | some o => exact hlow d o hg
  have hdm : d ≠ m := by
    rintro rfl
    unfold load1 at hload
    rw [hm] at hload
    cases hload
  unfold entry dSettle
  rw [treeOf_three]
  apply ends_of; simp [-Int.ofNat_eq_natCast, hload, sRngm, hm, newObj]
  apply ends_of; simp [-Int.ofNat_eq_natCast]
  apply ends_of; simp [-Int.ofNat_eq_natCast]
  refine settle_loop (h := h) (it := nx) (m := m) (c := c) (d := d) (es := es) (L := L) hft hmi hlt hnd hkd hdrop (hC _) hload hdi hdm hok es.length [] (nx + 1) _ _ (by rw [leftOf_nil]) (by omega) ⟨fun i hi him => ?_, ?_, ?_⟩ (by simp) (by simp) (by simp) (by simp) ?_
  · rw [T.get_set_other _ _ (by omega)]
  · rw [T.get_set_other _ _ (by omega), curr_nil]; exact hm
  · simp
  · intro H' seen' S
    refine ⟨rfl, ?_, rfl⟩
    intro i x hx
    refine ⟨x, ?_, OLe.refl x⟩
    by_cases him : i = m
    · subst him
      rw [T.get_set_same] at hx
      rw [S.map]; exact hx
    · rw [T.get_set_other _ _ (Ne.symm him)] at hx
      rw [S.low i (hlow i x hx) him]; exact hx

theorem settleAt_ok (hft : CodeOk P ft) (hmix : P.follows .mixedOrders = true) {f fn d a n z : Nat} {cap : List AV} (hdf : ft.get f = some dSettle) {B : Nat} {w0 w : World} {ρ : Rho} {h h' : T AO} {nx nx' : Nat} (R : Rel P ft B w0 ρ h nx w) {us : List Value} (ha : VRelL ρ [.ptr d 0, .str a n, .fv fn [] cap] us) {v : AV} (hh : hSettleAt d a n z h nx = some (v, h', nx'))
    {ok : T AO → Prop} (hok : ∀ m es c, h.get m = some (.map es c (.agg [.str, .int .i64])) → ∀ H, (∀ i, i < nx → i ≠ m → H.get i = h.get i) → ok H) (hC : ∀ Q, CallsTo ft .nil Q ok fn cap z) :
    Calls P f us.toArray w fun e w' => ∃ u ρ', e = .returned u ∧ ρ.le ρ' ∧ VRel ρ' v u ∧ Rel P ft B w0 ρ' h' nx' w' := by
  unfold hSettleAt at hh
  split at hh
  · rename_i m hd
    split at hh
    · rename_i es c hm
      split at hh
      · rename_i L hL
        cases hh
        obtain ⟨g, hρ, _, _⟩ := R.obj _ _ hm
        obtain ⟨_, _, _, _, _, hkd, hnd, hlt, _⟩ := R.map hm hρ
        have E := settle_ends (ft := ft) (big := .nil) (ok := ok) hdf hm hlt hnd hkd hL hd (fun i o hi => by
          obtain ⟨g, h1, _⟩ := R.obj i o hi
          exact (R.dom i g h1).1) (hok m es c hm) hC
        intro cs
        obtain ⟨e, w2, fr, ⟨u, ρ', v', h2, nx2, e1, e2, e3, e4, rfl, e6, rfl⟩, e7⟩ := calls_of_ends hft (big := .nil) bigOk_nil hmix hdf R ha E cs
        exact ⟨e, w2, fr, ⟨u, ρ', e1, e2, e3, e4.sub e6 (by show nx + 1 + es.length ≤ nx + (1 + es.length); omega)⟩, e7⟩
      · cases hh
    · cases hh
  · cases hh

theorem hSettle_ok (hft : CodeOk P ft) (hmix : P.follows .mixedOrders = true) {f all cut sec : Nat} (hdf : ft.get f = some dSettle) (hall : ft.get all = some dAll) (hcut : ft.get cut = some (dCut1 sec)) (hsec : ft.get sec = some dSectors) : HOk P ft f (hSettle all cut) := by
  intro B w0 ρ h nx w args us v h' nx' R ha hh
  unfold hSettle at hh
  split at hh
  · rename_i d a n fn
    split at hh
    · rename_i he
      have := eq_of_beq' he
      subst this
      exact settleAt_ok hft hmix hdf R ha hh (ok := fun _ => True) (fun _ _ _ _ _ _ => trivial) (fun Q => callsTo_all hall rfl)
    · cases hh
  · rename_i d a n fn sz
    split at hh
    · rename_i he
      have := eq_of_beq' he
      subst this
      split at hh
      · rename_i z hz
        split at hh
        · rename_i hzb
          have hzi : ∃ o, h.get sz = some o ∧ (∀ es c sh, o ≠ .map es c sh) := by
            unfold load1 at hz
            cases hg : h.get sz with
            | none => rw [hg] at hz; cases hz
            | some o =>
              refine ⟨o, rfl, ?_⟩
              rintro es c sh rfl
              rw [hg] at hz; cases hz
          obtain ⟨o, ho, hnm⟩ := hzi
          have hzl : sz < nx := by
            obtain ⟨g, h1, _⟩ := R.obj sz o ho
            exact (R.dom sz g h1).1
          refine settleAt_ok hft hmix hdf R ha hh (ok := fun H => load1 H sz 0 = some (.int .i64 (.ofNat z))) (fun m es c hm H hH => ?_) (fun Q => callsTo_cut hcut rfl hsec rfl (lt_of_blt hzb))
          rw [load1_congr (hH sz hzl ?_)]
          · exact hz
          · rintro rfl
            rw [hm] at ho
            cases ho
            exact hnm _ _ _ rfl
        · cases hh
      · cases hh
    · cases hh
  · cases hh
end Go.Md
end
