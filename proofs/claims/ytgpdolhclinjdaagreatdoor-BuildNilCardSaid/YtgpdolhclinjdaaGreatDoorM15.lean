import Derived.Test.YtgpdolhclinjdaaGreatDoorM14
set_option linter.unusedVariables false
set_option linter.unusedSimpArgs false
set_option linter.unusedSectionVars false
section
/- disk.settle: whatever the order of the loose sectors, those that go are gone, the others stay. -/
namespace Go.Md
variable {P : Program} {ft : FT} {big : Big}

def dAll : DF := ⟨3,4,(.seq (.ops [⟨[⟨none,.mov,[.c (.bool false)]⟩],[(2,0)],.nop⟩]) (.seq (.ops [⟨[⟨none,.mov,[.c (.bool true)]⟩],[(2,0)],.nop⟩]) .ret)),[.t 2]⟩
def dCut1 (sec : Nat) : DF := ⟨8,91,(.seq (.ops [⟨[⟨none,.mov,[.c (.bool false)]⟩],[(3,0)],.nop⟩]) (.seq (.ops [⟨[⟨none,.mov,[.t 0]⟩,⟨none,.ld1,[.t 1]⟩],[(4,1)],.call (some 6) none sec [.e 0]⟩,⟨[⟨none,.bin .geq,[.t 4,.t 6]⟩,⟨none,.mov,[.e 0]⟩],[(3,0)],.nop⟩]) .ret)),[.t 3]⟩
def dSetBody : DC := .seq (.ops [⟨[],[],.nx (some 12) (.t 11)⟩,⟨[⟨none,.ext 0,[.t 12]⟩],[(13,0)],.nop⟩]) (.seq (.cond (.t 13) .skip (.exit 0)) (.block 1 (.seq (.ops [⟨[⟨none,.entm,[.t 11]⟩,⟨none,.ext 0,[.e 0]⟩],[(15,0)],.s (some 6) none (.alloc [(.str 0 0),(.int .i64 (.ofNat 0))]) []⟩,⟨[],[],.s none none (.st 2) [.t 6,.t 15]⟩]) (.seq (.ops [⟨[⟨none,.fa 0,[.t 6]⟩,⟨none,.ld1,[.e 0]⟩,⟨none,.mov,[.t 1]⟩,⟨none,.bin .eql,[.e 1,.e 0]⟩,⟨none,.mov,[.e 0]⟩,⟨(some (.e 0,true)),.mov,[.t 2]⟩,⟨(some (.e 1,true)),.fa 1,[.t 6]⟩,⟨(some (.e 2,true)),.ld1,[.e 0]⟩],[(20,3)],.callv (some 24) (some (.e 3,true)) (.e 2) [.e 0]⟩,⟨[⟨none,.pick,[.t 20,.t 24,.c (.bool false)]⟩],[(25,0)],.nop⟩]) (.cond (.t 25) (.dr [.q 0 26 ⟨none,.mov,[.t 0]⟩,.q 1 27 ⟨none,.nilc,[.t 26]⟩,.q 2 28 ⟨none,.fa 1,[.t 27]⟩,.q 3 29 ⟨none,.ld1,[.t 28]⟩,.q 4 30 ⟨none,.ldn 2,[.t 6]⟩,.s 5 (.s none none (.del (.agg [.str,.int .i64])) [.t 29,.t 30]) []]) .skip)))))
def dSettle : DF := ⟨31,2131802183,(.seq (.ops [⟨[⟨none,.mov,[.t 0]⟩,⟨none,.nilc,[.e 0]⟩,⟨none,.fa 1,[.e 0]⟩,⟨none,.ld1,[.e 0]⟩],[],.s (some 11) none (.rngm) [.e 0]⟩]) (.block 0 (.loop dSetBody))),[]⟩

attribute [local simp] step stepRun stepC stepC1 doSeg doFin finish evalQ guardOk evalXs evalX writeOuts leave_ret leave_end Fin.dst qop qMov qBin qUn qConv qIa qIap qLd1 qExt qNilc qFa qEqv qPick eqAny flatEq evalQs_nil evalQs_cons T.get_set nth_zero nth_succ endsR_go endsR_done endsR_fork bin strBin kEq exitTo retTo tuple results stepRet callFn sop enter stepDr callVal recheck

theorem ends_ret {Q : AV → T AO → Nat → Prop} {f : Nat} {df : DF} {tm : T AV} {todo : List AI} {fr fr' : AF} {cs : List AF} {H : T AO} {nx : Nat} {l : List AV} (hft : ft.get f = some df) (hr : results H tm df.res = some l) (hf : finish fr (Go.Md.tuple l) = some fr') (hE : Ends ft big Q ⟨fr', cs, H, nx⟩) :
    Ends ft big Q ⟨⟨f, tm, todo, none, [], true⟩, fr :: cs, H, nx⟩ := by
  refine .go (s' := ⟨fr', cs, H, nx⟩) ?_ hE
  have h1 : step ft big ⟨⟨f, tm, todo, none, [], true⟩, fr :: cs, H, nx⟩ = stepRet ft ⟨f, tm, todo, none, [], true⟩ (fr :: cs) H nx := rfl
  rw [h1]
  unfold stepRet
  simp only [hft, hr, retTo, hf]

/-- what a closure answers -/
def CallsTo (ft : FT) (big : Big) (Q : AV → T AO → Nat → Prop) (ok : T AO → Prop) (fn : Nat) (cap : List AV) (z : Nat) : Prop :=
  ∀ (fr fr' : AF) (cs : List AF) (H : T AO) (nx j : Nat), ok H → finish fr (.bool (Nat.ble z j)) = some fr' → Ends ft big Q ⟨fr', cs, H, nx⟩ → EndsR ft big Q (callFn ft big fr cs H nx fn (.int .i64 (.ofNat j) :: cap))
theorem callsTo_all {Q : AV → T AO → Nat → Prop} {fn : Nat} (hft : ft.get fn = some dAll) (hb : big.get fn = none) : CallsTo ft big Q (fun _ => True) fn [] 0 := by
  intro fr fr' cs H nx j _ hf hE
  simp [-Int.ofNat_eq_natCast, hb, hft, dAll, treeOf_one]
  apply ends_of; simp [-Int.ofNat_eq_natCast]
  apply ends_of; simp [-Int.ofNat_eq_natCast]
  apply ends_of; simp [-Int.ofNat_eq_natCast]
  have : Nat.ble 0 j = true := ble_t (Nat.zero_le j)
  rw [this] at hf
  exact ends_ret hft (l := [.bool true]) (by simp [dAll]) hf hE
theorem callsTo_cut {Q : AV → T AO → Nat → Prop} {fn sec sz z0 : Nat} (hft : ft.get fn = some (dCut1 sec)) (hb : big.get fn = none) (hsec : ft.get sec = some dSectors) (hsb : big.get sec = none) (hz : z0 < 1073741824) :
    CallsTo ft big Q (fun H => load1 H sz 0 = some (.int .i64 (.ofNat z0))) fn [.ptr sz 0] ((z0 + 63) / 64) := by
  intro fr fr' cs H nx j hok hf hE
  have hq : ((fwrap .i64 ((fwrap .i64 (Int.ofNat z0 + 64)).sub 1)).tdiv 64) = .ofNat ((z0 + 63) / 64) := i64_sec (by omega)
  have h64 : iEq 64 0 = false := rfl
  have hid : fwrap .i64 (.ofNat ((z0 + 63) / 64)) = .ofNat ((z0 + 63) / 64) := i64_id (by omega)
  have hcmp : Bool.not (iLt (.ofNat j) (.ofNat ((z0 + 63) / 64))) = Nat.ble ((z0 + 63) / 64) j := by
    show Bool.not (Nat.blt j ((z0 + 63) / 64)) = _
    by_cases h : j < (z0 + 63) / 64
    · rw [blt_t h, ble_f (by omega)]; rfl
    · rw [blt_f h, ble_t (by omega)]; rfl
  simp [-Int.ofNat_eq_natCast, hb, hft, dCut1, treeOf_two]
  apply ends_of; simp [-Int.ofNat_eq_natCast]
  apply ends_of; simp [-Int.ofNat_eq_natCast, hok, hsb, hsec, dSectors, treeOf_one]
  apply ends_of; simp [-Int.ofNat_eq_natCast]
  apply ends_of; simp [-Int.ofNat_eq_natCast, intBin, hq, h64, hid]
  apply ends_of; simp [-Int.ofNat_eq_natCast]
  apply ends_of; simp [-Int.ofNat_eq_natCast, hsec, dSectors]
  apply ends_of; simp [-Int.ofNat_eq_natCast, intBin]
  apply ends_of; simp [-Int.ofNat_eq_natCast]
  rw [← hcmp] at hf
  exact ends_ret hft (l := [.bool (Bool.not (iLt (.ofNat j) (.ofNat ((z0 + 63) / 64))))]) (by simp [-Int.ofNat_eq_natCast, dCut1]) hf hE

/-! the sectors that are there while some have been looked at -/
noncomputable def curr (a n z : Nat) (seen : List Nat) : List (AV × AV × Nat) → List (AV × AV × Nat)
  | [] => []
  | e :: r => match dropOf a n z e.1 with
    | some true => (match memN e.2.2 seen with
      | true => curr a n z seen r
      | false => e :: curr a n z seen r)
    | _ => e :: curr a n z seen r
theorem curr_nil {a n z : Nat} : ∀ (es : List (AV × AV × Nat)), curr a n z [] es = es
  | [] => rfl
  | e :: r => by
    simp only [curr, memN, curr_nil r]
    split <;> rfl
theorem curr_sub {a n z : Nat} {seen : List Nat} {x : AV × AV × Nat} : ∀ {es : List (AV × AV × Nat)}, x ∈ curr a n z seen es → x ∈ es
  | [], h => h
  | e :: r, h => by
    simp only [curr] at h
    split at h
    · split at h
      · exact List.mem_cons_of_mem _ (curr_sub h)
      · rcases List.mem_cons.1 h with rfl | h
        · simp
        · exact List.mem_cons_of_mem _ (curr_sub h)
    · rcases List.mem_cons.1 h with rfl | h
      · simp
      · exact List.mem_cons_of_mem _ (curr_sub h)
theorem curr_sublist {a n z : Nat} {seen : List Nat} : ∀ (es : List (AV × AV × Nat)), (curr a n z seen es).Sublist es
  | [] => .slnil
  | e :: r => by
    simp only [curr]
    split
    · split
      · exact (curr_sublist r).cons _
      · exact (curr_sublist r).cons_cons _
    · exact (curr_sublist r).cons_cons _
theorem leftOf_curr {a n z : Nat} {seen : List Nat} : ∀ (es : List (AV × AV × Nat)), leftOf seen (curr a n z seen es) = leftOf seen es
  | [] => rfl
  | e :: r => by
    simp only [curr]
    split
    · split
      · rename_i hm
        rw [leftOf_curr r]
        simp only [leftOf, hm]
      · rename_i hm
        simp only [leftOf, hm, leftOf_curr r]
    · simp only [leftOf, leftOf_curr r]
theorem curr_end {a n z : Nat} {seen : List Nat} : ∀ {es l : List (AV × AV × Nat)}, leftOf seen es = [] → dropFrom a n z es = some l → curr a n z seen es = l
  | [], l, _, h => by cases h; rfl
  | e :: r, l, hl, h => by
    simp only [dropFrom] at h
    have hm : memN e.2.2 seen = true ∧ leftOf seen r = [] := by
      simp only [leftOf] at hl
      split at hl
      · rename_i hm; exact ⟨hm, hl⟩
      · cases hl
    split at h
    · rename_i d hd
      split at h
      · rename_i l' hl'
        cases h
        simp only [curr, hd, curr_end hm.2 hl', hm.1]
        cases d <;> rfl
      · cases h
    · cases h
theorem memN_cons_ne {x st : Nat} {seen : List Nat} (h : x ≠ st) : memN x (st :: seen) = memN x seen := by
  rw [Bool.eq_iff_iff, memN_iff, memN_iff]; simp [h]
/-- one more looked at: it stays -/
theorem curr_stay {a n z : Nat} {seen : List Nat} : ∀ {es : List (AV × AV × Nat)}, (es.map (·.2.2)).Nodup → ∀ {e : AV × AV × Nat}, e ∈ es → dropOf a n z e.1 ≠ some true → curr a n z (e.2.2 :: seen) es = curr a n z seen es
  | [], _, e, he, _ => rfl
  | x :: r, hn, e, he, hd => by
    simp only [List.map_cons, List.nodup_cons] at hn
    rcases List.mem_cons.1 he with rfl | her
    · have h3 : curr a n z (e.2.2 :: seen) r = curr a n z seen r := by
        have : ∀ l : List (AV × AV × Nat), (∀ y ∈ l, y.2.2 ≠ e.2.2) → curr a n z (e.2.2 :: seen) l = curr a n z seen l := by
          intro l
          induction l with
          | nil => intro _; rfl
          | cons y l ih => intro hl; simp only [curr, memN_cons_ne (hl y (by simp)), ih (fun z hz => hl z (by simp [hz]))]
        exact this r fun y hy h => hn.1 (h ▸ List.mem_map_of_mem hy)
      simp only [curr, h3]
    · have hne : x.2.2 ≠ e.2.2 := fun h => hn.1 (h ▸ List.mem_map_of_mem her)
      simp only [curr, memN_cons_ne hne, curr_stay hn.2 her hd]
/-- one more looked at: it goes -/
theorem curr_go {a n z : Nat} {seen : List Nat} : ∀ {es : List (AV × AV × Nat)}, (es.map (·.2.2)).Nodup → (es.map (·.1)).Nodup → ∀ {e : AV × AV × Nat}, e ∈ es → e.2.2 ∉ seen → dropOf a n z e.1 = some true → curr a n z (e.2.2 :: seen) es = mapDel e.1 (curr a n z seen es)
  | [], _, _, e, he, _, _ => by cases he
  | x :: r, hn, hk, e, he, hs, hd => by
    simp only [List.map_cons, List.nodup_cons] at hn hk
    rcases List.mem_cons.1 he with rfl | her
    · have h3 : curr a n z (e.2.2 :: seen) r = curr a n z seen r := by
        have : ∀ l : List (AV × AV × Nat), (∀ y ∈ l, y.2.2 ≠ e.2.2) → curr a n z (e.2.2 :: seen) l = curr a n z seen l := by
          intro l
          induction l with
          | nil => intro _; rfl
          | cons y l ih => intro hl; simp only [curr, memN_cons_ne (hl y (by simp)), ih (fun z hz => hl z (by simp [hz]))]
        exact this r fun y hy h => hn.1 (h ▸ List.mem_map_of_mem hy)
      have h1 : memN e.2.2 seen = false := memN_false.2 hs
      have h2 : memN e.2.2 (e.2.2 :: seen) = true := memN_iff.2 (by simp)
      simp only [curr, h3, hd, h1, h2, mapDel, AV.beq_refl]
    · have hne : x.2.2 ≠ e.2.2 := fun h => hn.1 (h ▸ List.mem_map_of_mem her)
      have hkne : AV.beq e.1 x.1 = false := by
        cases hb : AV.beq e.1 x.1 with
        | false => rfl
        | true => exact absurd ((AV.eq_of_beq _ _ hb) ▸ List.mem_map_of_mem her) hk.1
      have ih := curr_go hn.2 hk.2 her hs hd
      simp only [curr, memN_cons_ne hne, ih]
      cases dropOf a n z x.1 with
      | none => simp only [mapDel, hkne]
      | some d =>
        cases d with
        | false => simp only [mapDel, hkne]
        | true =>
          cases memN x.2.2 seen with
          | true => rfl
          | false => simp only [mapDel, hkne]
theorem dropFrom_mem {a n z : Nat} : ∀ {es l : List (AV × AV × Nat)}, dropFrom a n z es = some l → ∀ e ∈ es, ∃ d, dropOf a n z e.1 = some d
  | [], _, _, e, he => by cases he
  | x :: r, l, h, e, he => by
    simp only [dropFrom] at h
    split at h
    · rename_i d hd
      split at h
      · rename_i l' hl'
        rcases List.mem_cons.1 he with rfl | he
        · exact ⟨d, hd⟩
        · exact dropFrom_mem hl' e he
      · cases h
    · cases h

/-- the heaps of the loop -/
structure SetH (h H : T AO) (it m c : Nat) (seen : List Nat) (es : List (AV × AV × Nat)) : Prop where
  low : ∀ i, i < it → i ≠ m → H.get i = h.get i
  map : H.get m = some (.map es c (.agg [.str, .int .i64]))
  iter : H.get it = some (.miter (some m) c seen c)
def dSetHalf : DC := .seq (.ops [⟨[⟨none,.fa 0,[.t 6]⟩,⟨none,.ld1,[.e 0]⟩,⟨none,.mov,[.t 1]⟩,⟨none,.bin .eql,[.e 1,.e 0]⟩,⟨none,.mov,[.e 0]⟩,⟨(some (.e 0,true)),.mov,[.t 2]⟩,⟨(some (.e 1,true)),.fa 1,[.t 6]⟩,⟨(some (.e 2,true)),.ld1,[.e 0]⟩],[(20,3)],.callv (some 24) (some (.e 3,true)) (.e 2) [.e 0]⟩,⟨[⟨none,.pick,[.t 20,.t 24,.c (.bool false)]⟩],[(25,0)],.nop⟩]) (.cond (.t 25) (.dr [.q 0 26 ⟨none,.mov,[.t 0]⟩,.q 1 27 ⟨none,.nilc,[.t 26]⟩,.q 2 28 ⟨none,.fa 1,[.t 27]⟩,.q 3 29 ⟨none,.ld1,[.t 28]⟩,.q 4 30 ⟨none,.ldn 2,[.t 6]⟩,.s 5 (.s none none (.del (.agg [.str,.int .i64])) [.t 29,.t 30]) []]) .skip)
theorem settle_half {d m c f a n z fn b bl j nx2 ky : Nat} {cap : List AV} {es : List (AV × AV × Nat)} {Q : AV → T AO → Nat → Prop} {ok : T AO → Prop} (hC : CallsTo ft big Q ok fn cap z) {tm : T AV} {H : T AO} (hokH : ok H)
    (h0 : tm.get 0 = some (.ptr d 0)) (h1 : tm.get 1 = some (.str a n)) (h2 : tm.get 2 = some (.fv fn [] cap)) (h6 : tm.get 6 = some (.ptr ky 0)) (l0 : load1 H ky 0 = some (.str b bl)) (l1 : load1 H ky 1 = some (.int .i64 (.ofNat j))) (l2 : loadCells H ky 0 2 = some [.str b bl, .int .i64 (.ofNat j)])
    (hload : load1 H d 1 = some (.mp m)) (hm : H.get m = some (.map es c (.agg [.str, .int .i64])))
    (hstay : dropOf a n z (.agg [.str b bl, .int .i64 (.ofNat j)]) = some false → ∀ tm' : T AV, tm'.get 0 = tm.get 0 → tm'.get 1 = tm.get 1 → tm'.get 2 = tm.get 2 → tm'.get 11 = tm.get 11 → Ends ft big Q ⟨⟨f, tm', [.c dSetBody, .lp dSetBody, .blk 0], none, [], false⟩, [], H, nx2⟩)
    (hgo : dropOf a n z (.agg [.str b bl, .int .i64 (.ofNat j)]) = some true → ∀ tm' : T AV, tm'.get 0 = tm.get 0 → tm'.get 1 = tm.get 1 → tm'.get 2 = tm.get 2 → tm'.get 11 = tm.get 11 → Ends ft big Q ⟨⟨f, tm', [.c dSetBody, .lp dSetBody, .blk 0], none, [], false⟩, [], H.set m (.map (mapDel (.agg [.str b bl, .int .i64 (.ofNat j)]) es) c (.agg [.str, .int .i64])), nx2⟩) :
    Ends ft big Q ⟨⟨f, tm, [.c dSetHalf, .blk 1, .lp dSetBody, .blk 0], none, [], false⟩, [], H, nx2⟩ := by
  cases hs : sEq b bl a n with
  | false =>
    have hdo : dropOf a n z (.agg [.str b bl, .int .i64 (.ofNat j)]) = some false := by simp only [dropOf, hs]
    apply ends_of; simp [-Int.ofNat_eq_natCast, dSetHalf, h6, l0, h1, hs]
    apply ends_of; simp [-Int.ofNat_eq_natCast]
    apply ends_of; simp [-Int.ofNat_eq_natCast]
    apply ends_of; simp [-Int.ofNat_eq_natCast]
    apply ends_of; simp [-Int.ofNat_eq_natCast]
    apply ends_of; simp [-Int.ofNat_eq_natCast]
    exact hstay hdo _ (by simp) (by simp) (by simp) (by simp)
  | true =>
    have hdo : dropOf a n z (.agg [.str b bl, .int .i64 (.ofNat j)]) = some (Nat.ble z j) := by simp only [dropOf, hs]
    apply ends_of
    simp only [dSetHalf, step, stepRun, stepC, stepC1, doSeg, evalQs_nil, evalQs_cons, evalQ, guardOk, evalXs, evalX, h6, h1, h2, qop, qFa, qLd1, qMov, qBin, bin, strBin, hs, l0, l1, nth_zero, nth_succ, writeOuts, doFin, callVal, Fin.dst, List.nil_append, List.cons_append, Nat.add]
    refine hC _ _ _ _ _ _ hokH (by simp only [finish]; rfl) ?_
    cases hz : Nat.ble z j with
    | false =>
      rw [hz] at hdo
      apply ends_of; simp [-Int.ofNat_eq_natCast]
      apply ends_of; simp [-Int.ofNat_eq_natCast]
      apply ends_of; simp [-Int.ofNat_eq_natCast]
      apply ends_of; simp [-Int.ofNat_eq_natCast]
      apply ends_of; simp [-Int.ofNat_eq_natCast]
      exact hstay hdo _ (by simp) (by simp) (by simp) (by simp)
    | true =>
      rw [hz] at hdo
      apply ends_of; simp [-Int.ofNat_eq_natCast]
      apply ends_of; simp [-Int.ofNat_eq_natCast]
      apply ends_of; simp [-Int.ofNat_eq_natCast]
      apply ends_of; simp [-Int.ofNat_eq_natCast, h0]
      apply ends_of; simp [-Int.ofNat_eq_natCast]
      apply ends_of; simp [-Int.ofNat_eq_natCast]
      apply ends_of; simp [-Int.ofNat_eq_natCast, hload]
      apply ends_of; simp [-Int.ofNat_eq_natCast, qLdn, h6, l2]
      apply ends_of; simp [-Int.ofNat_eq_natCast, sDel, shOk, ksOkL, ksOk, hm, shEq, ksEqL, ksEq]
      apply ends_of; simp [-Int.ofNat_eq_natCast]
      apply ends_of; simp [-Int.ofNat_eq_natCast]
      apply ends_of; simp [-Int.ofNat_eq_natCast]
      apply ends_of; simp [-Int.ofNat_eq_natCast]
      exact hgo hdo _ (by simp) (by simp) (by simp) (by simp)
theorem settle_loop {h : T AO} {it m c f d a n z fn : Nat} {cap : List AV} {es L : List (AV × AV × Nat)} {Q : AV → T AO → Nat → Prop} {ok : T AO → Prop} (hft : ft.get f = some dSettle) (hmi : m < it) (hlt : ∀ x ∈ es, x.2.2 < c) (hnd : (es.map (·.2.2)).Nodup) (hkd : (es.map (·.1)).Nodup)
    (hdrop : dropFrom a n z es = some L) (hC : CallsTo ft big Q ok fn cap z) (hload : load1 h d 1 = some (.mp m)) (hdi : d < it) (hdm : d ≠ m) (hok : ∀ H, (∀ i, i < it → i ≠ m → H.get i = h.get i) → ok H) :
    ∀ (k : Nat) (seen : List Nat) (nx2 : Nat) (tm : T AV) (H : T AO), (leftOf seen es).length = k → it < nx2 → SetH h H it m c seen (curr a n z seen es) →
      tm.get 0 = some (.ptr d 0) → tm.get 1 = some (.str a n) → tm.get 2 = some (.fv fn [] cap) → tm.get 11 = some (.ptr it 0) →
      (∀ H' seen', SetH h H' it m c seen' L → Q .undef H' (nx2 + k)) →
      Ends ft big Q ⟨⟨f, tm, [.c dSetBody, .lp dSetBody, .blk 0], none, [], false⟩, [], H, nx2⟩ := by
  intro k
  induction k with
  | zero =>
    intro seen nx2 tm H hk hin S h0 h1 h2 h11 hQ
    have hl : leftOf seen es = [] := List.eq_nil_of_length_eq_zero hk
    have hno := nextOuts_map S.iter S.map (fun x hx => hlt x (curr_sub hx))
    rw [leftOf_curr, hl] at hno
    have he := curr_end hl hdrop
    apply ends_of; simp [-Int.ofNat_eq_natCast, dSetBody, h11, hno]
    apply ends_of; simp [-Int.ofNat_eq_natCast]
    apply ends_of; simp [-Int.ofNat_eq_natCast]
    apply ends_of; simp [-Int.ofNat_eq_natCast]
    apply ends_of; simp [-Int.ofNat_eq_natCast]
    apply ends_of; simp [-Int.ofNat_eq_natCast, hft, dSettle]
    have := hQ H seen (by rw [← he]; exact S)
    simpa using this
  | succ k ih =>
    intro seen nx2 tm H hk hin S h0 h1 h2 h11 hQ
    have hno := nextOuts_map S.iter S.map (fun x hx => hlt x (curr_sub hx))
    rw [leftOf_curr] at hno
    have hno2 : nextOuts (.ptr it 0) H = some ((leftOf seen es).map fun e => (.tup [.bool true, e.1, e.2.1], H.set it (.miter (some m) c (e.2.2 :: seen) c))) := by
      rw [hno]
      cases hl : leftOf seen es with
      | nil => rw [hl] at hk; cases hk
      | cons x r => rfl
    apply ends_of; simp [-Int.ofNat_eq_natCast, dSetBody, h11, hno2]
    rintro s k0 v0 st hmem rfl
    have hp := leftOf_cons hnd hmem
    obtain ⟨hmes, hns⟩ := mem_leftOf.1 hmem
    obtain ⟨dd, hdd⟩ := dropFrom_mem hdrop _ hmes
    have hdd0 := hdd
    unfold dropOf at hdd
    split at hdd
    · rename_i b bl j hkey
      simp only at hkey
      subst hkey
      simp only [Option.some.injEq] at hdd
      have hmit : m ≠ it := by omega
      have hent : qEntm [.ptr it 0] (H.set it (.miter (some m) c (st :: seen) c)) = some (.tup [.agg [.str b bl, .int .i64 (.ofNat j)], v0]) := by
        have hcm : (AV.agg [.str b bl, .int .i64 (.ofNat j)], v0, st) ∈ curr a n z seen es := by
          have : (AV.agg [.str b bl, .int .i64 (.ofNat j)], v0, st) ∈ leftOf seen (curr a n z seen es) := by rw [leftOf_curr]; exact hmem
          exact (mem_leftOf.1 this).1
        have := findStamp_of (hnd.sublist ((curr_sublist es).map _)) hcm
        unfold qEntm
        simp only [T.get_set, if_neg (Ne.symm hmit), S.map, if_true, Nat.beq_refl]
        simp only at this
        rw [this]
      apply ends_of; simp [-Int.ofNat_eq_natCast]
      apply ends_of; simp [-Int.ofNat_eq_natCast]
      apply ends_of; simp [-Int.ofNat_eq_natCast]
      apply ends_of; simp [-Int.ofNat_eq_natCast]
      apply ends_of; simp [-Int.ofNat_eq_natCast, h11, hent, sAlloc, newObj, treeOf_two]
      apply ends_of; simp [-Int.ofNat_eq_natCast, sSt, storeCells, AV.cells, allOne, AV.one, writeCells]
      have hitn : ∀ i, i < it → i ≠ m → ∀ (A B : AO), (((H.set it (AO.miter (some m) c (st :: seen) c)).set nx2 A).set nx2 B).get i = h.get i := by
        intro i hi him A B
        rw [T.get_set_other _ _ (by omega), T.get_set_other _ _ (by omega), T.get_set_other _ _ (by omega), S.low i hi him]
      have hmn : ∀ (A B : AO), (((H.set it (AO.miter (some m) c (st :: seen) c)).set nx2 A).set nx2 B).get m = some (.map (curr a n z seen es) c (.agg [.str, .int .i64])) := by
        intro A B
        rw [T.get_set_other _ _ (by omega), T.get_set_other _ _ (by omega), T.get_set_other _ _ (by omega), S.map]
      have hkn : (leftOf (st :: seen) es).length = k := by
        have := hp.length_eq
        simp only [List.length_cons] at this
        omega
      refine settle_half (a := a) (n := n) (z := z) (fn := fn) (cap := cap) (m := m) (c := c) (d := d) (ky := nx2) (b := b) (bl := bl) (j := j) (es := curr a n z seen es) hC (hok _ fun i hi him => hitn i hi him _ _) (by simp [h0]) (by simp [h1]) (by simp [h2]) (by simp) ?_ ?_ ?_ ?_ (hmn _ _) ?_ ?_
      · simp [load1, T.get_set, blt_t (show 0 < 2 by decide)]
      · simp [load1, T.get_set, blt_t (show 1 < 2 by decide)]
      · simp [loadCells, readCells, T.get_set]
      · rw [load1_congr (hitn d hdi hdm _ _)]; exact hload
      · intro hd tm' e0 e1 e2 e11
        refine ih (st :: seen) (nx2 + 1) tm' _ hkn (by omega) ⟨fun i hi him => hitn i hi him _ _, ?_, ?_⟩ (by rw [e0]; simp [h0]) (by rw [e1]; simp [h1]) (by rw [e2]; simp [h2]) (by rw [e11]; simp [h11]) ?_
        · rw [hmn, curr_stay hnd hmes (by simp only [hd]; simp)]
        · simp [T.get_set, show nx2 ≠ it by omega]
        · intro H' seen' hS
          have := hQ H' seen' hS
          rw [show nx2 + 1 + k = nx2 + (k + 1) by omega]; exact this
      · intro hd tm' e0 e1 e2 e11
        refine ih (st :: seen) (nx2 + 1) tm' _ hkn (by omega) ⟨fun i hi him => ?_, ?_, ?_⟩ (by rw [e0]; simp [h0]) (by rw [e1]; simp [h1]) (by rw [e2]; simp [h2]) (by rw [e11]; simp [h11]) ?_
        · rw [T.get_set_other _ _ (Ne.symm him)]; exact hitn i hi him _ _
        · rw [T.get_set_same, ← curr_go hnd hkd hmes hns hd]
        · rw [T.get_set_other _ _ hmit]
          simp [T.get_set, show nx2 ≠ it by omega]
        · intro H' seen' hS
          have := hQ H' seen' hS
          rw [show nx2 + 1 + k = nx2 + (k + 1) by omega]; exact this
    · cases hdd

theorem settle_ends {h : T AO} {m c f d a n z fn nx : Nat} {cap : List AV} {es L : List (AV × AV × Nat)} {ok : T AO → Prop} (hft : ft.get f = some dSettle) (hm : h.get m = some (.map es c (.agg [.str, .int .i64]))) (hlt : ∀ x ∈ es, x.2.2 < c) (hnd : (es.map (·.2.2)).Nodup) (hkd : (es.map (·.1)).Nodup)
    (hdrop : dropFrom a n z es = some L) (hload : load1 h d 1 = some (.mp m)) (hlow : ∀ i o, h.get i = some o → i < nx) (hok : ∀ H, (∀ i, i < nx → i ≠ m → H.get i = h.get i) → ok H)
    (hC : ∀ Q, CallsTo ft big Q ok fn cap z) :
    Ends ft big (fun v h' nx' => v = .undef ∧ HLe (h.set m (.map L c (.agg [.str, .int .i64]))) h' ∧ nx' = nx + 1 + es.length) (entry f dSettle [.ptr d 0, .str a n, .fv fn [] cap] h nx) := by
  have hmi := hlow m _ hm
  have hdi : d < nx := by
    unfold load1 at hload
    cases hg : h.get d with
    | none => rw [hg] at hload; cases hload
    | some o => exact hlow d o hg
  have hdm : d ≠ m := by
    rintro rfl
    unfold load1 at hload
    rw [hm] at hload
    cases hload
  unfold entry dSettle
  rw [treeOf_three]
  apply ends_of; simp [-Int.ofNat_eq_natCast, hload, sRngm, hm, newObj]
  apply ends_of; simp [-Int.ofNat_eq_natCast]
  apply ends_of; simp [-Int.ofNat_eq_natCast]
  refine settle_loop (h := h) (it := nx) (m := m) (c := c) (d := d) (es := es) (L := L) hft hmi hlt hnd hkd hdrop (hC _) hload hdi hdm hok es.length [] (nx + 1) _ _ (by rw [leftOf_nil]) (by omega) ⟨fun i hi him => ?_, ?_, ?_⟩ (by simp) (by simp) (by simp) (by simp) ?_
  · rw [T.get_set_other _ _ (by omega)]
  · rw [T.get_set_other _ _ (by omega), curr_nil]; exact hm
  · simp
  · intro H' seen' S
    refine ⟨rfl, ?_, rfl⟩
    intro i x hx
    refine ⟨x, ?_, OLe.refl x⟩
    by_cases him : i = m
    · subst him
      rw [T.get_set_same] at hx
      rw [S.map]; exact hx
    · rw [T.get_set_other _ _ (Ne.symm him)] at hx
      rw [S.low i (hlow i x hx) him]; exact hx

theorem settleAt_ok (hft : CodeOk P ft) (hmix : P.follows .mixedOrders = true) {f fn d a n z : Nat} {cap : List AV} (hdf : ft.get f = some dSettle) {B : Nat} {w0 w : World} {ρ : Rho} {h h' : T AO} {nx nx' : Nat} (R : Rel P ft B w0 ρ h nx w) {us : List Value} (ha : VRelL ρ [.ptr d 0, .str a n, .fv fn [] cap] us) {v : AV} (hh : hSettleAt d a n z h nx = some (v, h', nx'))
    {ok : T AO → Prop} (hok : ∀ m es c, h.get m = some (.map es c (.agg [.str, .int .i64])) → ∀ H, (∀ i, i < nx → i ≠ m → H.get i = h.get i) → ok H) (hC : ∀ Q, CallsTo ft .nil Q ok fn cap z) :
    Calls P f us.toArray w fun e w' => ∃ u ρ', e = .returned u ∧ ρ.le ρ' ∧ VRel ρ' v u ∧ Rel P ft B w0 ρ' h' nx' w' := by
  unfold hSettleAt at hh
  split at hh
  · rename_i m hd
    split at hh
    · rename_i es c hm
      split at hh
      · rename_i L hL
        cases hh
        obtain ⟨g, hρ, _, _⟩ := R.obj _ _ hm
        obtain ⟨_, _, _, _, _, hkd, hnd, hlt, _⟩ := R.map hm hρ
        have E := settle_ends (ft := ft) (big := .nil) (ok := ok) hdf hm hlt hnd hkd hL hd (fun i o hi => by
          obtain ⟨g, h1, _⟩ := R.obj i o hi
          exact (R.dom i g h1).1) (hok m es c hm) hC
        intro cs
        obtain ⟨e, w2, fr, ⟨u, ρ', v', h2, nx2, e1, e2, e3, e4, rfl, e6, rfl⟩, e7⟩ := calls_of_ends hft (big := .nil) bigOk_nil hmix hdf R ha E cs
        exact ⟨e, w2, fr, ⟨u, ρ', e1, e2, e3, e4.sub e6 (by show nx + 1 + es.length ≤ nx + (1 + es.length); omega)⟩, e7⟩
      · cases hh
    · cases hh
  · cases hh

theorem hSettle_ok (hft : CodeOk P ft) (hmix : P.follows .mixedOrders = true) {f all cut sec : Nat} (hdf : ft.get f = some dSettle) (hall : ft.get all = some dAll) (hcut : ft.get cut = some (dCut1 sec)) (hsec : ft.get sec = some dSectors) : HOk P ft f (hSettle all cut) := by
  intro B w0 ρ h nx w args us v h' nx' R ha hh
  unfold hSettle at hh
  split at hh
  · rename_i d a n fn
    split at hh
    · rename_i he
      have := eq_of_beq' he
      subst this
      exact settleAt_ok hft hmix hdf R ha hh (ok := fun _ => True) (fun _ _ _ _ _ _ => trivial) (fun Q => callsTo_all hall rfl)
    · cases hh
  · rename_i d a n fn sz
    split at hh
    · rename_i he
      have := eq_of_beq' he
      subst this
      split at hh
      · rename_i z hz
        split at hh
        · rename_i hzb
          have hzi : ∃ o, h.get sz = some o ∧ (∀ es c sh, o ≠ .map es c sh) := by
            unfold load1 at hz
            cases hg : h.get sz with
            | none => rw [hg] at hz; cases hz
            | some o =>
              refine ⟨o, rfl, ?_⟩
              rintro es c sh rfl
              rw [hg] at hz; cases hz
          obtain ⟨o, ho, hnm⟩ := hzi
          have hzl : sz < nx := by
            obtain ⟨g, h1, _⟩ := R.obj sz o ho
            exact (R.dom sz g h1).1
          refine settleAt_ok hft hmix hdf R ha hh (ok := fun H => load1 H sz 0 = some (.int .i64 (.ofNat z))) (fun m es c hm H hH => ?_) (fun Q => callsTo_cut hcut rfl hsec rfl (lt_of_blt hzb))
          rw [load1_congr (hH sz hzl ?_)]
          · exact hz
          · rintro rfl
            rw [hm] at ho
            cases ho
            exact hnm _ _ _ rfl
        · cases hh
      · cases hh
    · cases hh
  · cases hh
end Go.Md
end
section
/- slices.Sort of at most twelve texts: D's code sorts. No condition but that the code is so. -/
namespace Go.Md
variable {P : Program} {ft : FT} {big : Big} {Q : AV → T AO → Nat → Prop}

/-! the order -/
def ks (x : Nat × Nat) : List UInt8 := unpackN x.1 x.2
def Wf (x : Nat × Nat) : Prop := x.1 < 256 ^ x.2
theorem bytesLess_lt : ∀ a b : List UInt8, Op.bytesLess a b = decide (a < b)
  | _, [] => by simp [Op.bytesLess]
  | [], _ :: _ => by simp [Op.bytesLess]
  | a :: x, b :: y => by
    simp only [Op.bytesLess, bytesLess_lt x y, List.cons_lt_cons_iff]
    by_cases h1 : a < b <;> by_cases h2 : a = b <;> by_cases h3 : x < y <;> simp [h1, h2, h3]
theorem sLt_eq (x y : Nat × Nat) : sLt x y = decide (ks x < ks y) := by
  unfold sLt
  rw [unpackN_lt (show x.2 < Nat.add x.2 1 from Nat.lt_succ_self _), bytesLess_lt]
  rfl
theorem strLt_eq (x y : Nat × Nat) : strLt (x.2 + 1) x.1 x.2 y.1 y.2 = decide (ks x < ks y) := sLt_eq x y
def Srt (l : List (Nat × Nat)) : Prop := l.Pairwise fun x y => ks x ≤ ks y
theorem ks_inj {x y : Nat × Nat} (hx : Wf x) (hy : Wf y) (h : ks x = ks y) : x = y := by
  have hl : x.2 = y.2 := by
    have := congrArg List.length h
    simpa [ks, unpackN_length] using this
  obtain ⟨a, n⟩ := x
  obtain ⟨b, m⟩ := y
  simp only at hl
  subst hl
  have e : a = b := unpackN_inj hx hy h
  rw [e]
theorem srt_unique {a b : List (Nat × Nat)} (hp : a.Perm b) (hw : ∀ x ∈ a, Wf x) (ha : Srt a) (hb : Srt b) : a = b :=
  List.Perm.eq_of_pairwise (fun x y hx hy h1 h2 => ks_inj (hw x hx) (hw y (hp.mem_iff.2 hy)) (List.le_antisymm h1 h2)) ha hb hp
theorem insS_perm (x : Nat × Nat) : ∀ l, (insS x l).Perm (x :: l)
  | [] => .refl _
  | y :: r => by
    simp only [insS]
    split
    · exact .refl _
    · exact ((insS_perm x r).cons y).trans (.swap _ _ _)
theorem insS_srt (x : Nat × Nat) : ∀ l, Srt l → Srt (insS x l)
  | [], _ => by simp [insS, Srt]
  | y :: r, h => by
    simp only [insS]
    unfold Srt at h ⊢
    rw [List.pairwise_cons] at h
    split
    · rename_i hs
      rw [sLt_eq, decide_eq_true_eq] at hs
      have hxy : ks x ≤ ks y := List.le_of_lt hs
      rw [List.pairwise_cons]
      exact ⟨fun z hz => by
        rcases List.mem_cons.1 hz with rfl | hz
        · exact hxy
        · exact List.le_trans hxy (h.1 z hz), List.pairwise_cons.2 h⟩
    · rename_i hs
      rw [sLt_eq, decide_eq_false_iff_not] at hs
      rw [List.pairwise_cons]
      refine ⟨fun z hz => ?_, insS_srt x r h.2⟩
      rcases List.mem_cons.1 ((insS_perm x r).mem_iff.1 hz) with rfl | hz
      · exact List.not_lt.1 hs
      · exact h.1 z hz
theorem sortS_perm : ∀ l, (sortS l).Perm l
  | [] => .refl _
  | x :: r => (insS_perm x (sortS r)).trans ((sortS_perm r).cons x)
theorem sortS_srt : ∀ l, Srt (sortS l)
  | [] => by simp [sortS, Srt]
  | x :: r => insS_srt x _ (sortS_srt r)

/-! codes -/
def dNan : DF := ⟨6,5,(.seq (.ops [⟨[⟨none,.mov,[.c (.bool false)]⟩],[(2,0)],.nop⟩]) (.seq (.ops [⟨[⟨none,.mov,[.t 0]⟩,⟨none,.mov,[.t 0]⟩,⟨none,.bin .neq,[.e 1,.e 0]⟩,⟨none,.mov,[.e 0]⟩],[(2,0)],.nop⟩]) .ret)),[.t 2]⟩
def dLess (nan : Nat) : DF := ⟨17,723,(.seq (.ops [⟨[⟨none,.mov,[.c (.bool false)]⟩],[(4,0)],.nop⟩]) (.seq (.ops [⟨[⟨none,.mov,[.t 0]⟩],[],.call (some 6) none nan [.e 0]⟩,⟨[⟨none,.mov,[.t 6]⟩,⟨(some (.e 0,true)),.mov,[.t 1]⟩],[(7,1)],.call (some 9) (some (.e 1,true)) nan [.e 0]⟩,⟨[⟨(some (.t 7,true)),.un .not,[.t 9]⟩,⟨none,.pick,[.t 7,.e 0,.c (.bool false)]⟩,⟨none,.mov,[.e 0]⟩,⟨(some (.e 0,false)),.mov,[.t 0]⟩,⟨(some (.e 1,false)),.mov,[.t 1]⟩,⟨(some (.e 2,false)),.bin .lss,[.e 1,.e 0]⟩,⟨none,.pick,[.e 3,.c (.bool true),.e 0]⟩,⟨none,.mov,[.e 0]⟩],[(4,0)],.nop⟩]) .ret)),[.t 4]⟩
def insAsk (less : Nat) : DC := .dr [.q 0 16 ⟨none,.mov,[.t 7]⟩,.q 1 17 ⟨none,.mov,[.t 1]⟩,.q 2 18 ⟨none,.bin .gtr,[.t 16,.t 17]⟩,.q 3 19 ⟨none,.mov,[.t 18]⟩,.q 4 20 ⟨(some (.t 19,true)),.mov,[.t 0]⟩,.q 5 21 ⟨(some (.t 19,true)),.mov,[.t 7]⟩,.q 6 22 ⟨(some (.t 19,true)),.ia 1,[.t 20,.t 21]⟩,.q 7 23 ⟨(some (.t 19,true)),.ld1,[.t 22]⟩,.q 8 24 ⟨(some (.t 19,true)),.mov,[.t 0]⟩,.q 9 25 ⟨(some (.t 19,true)),.mov,[.t 7]⟩,.q 10 26 ⟨(some (.t 19,true)),.bin .sub,[.t 25,.c (.int .i64 (.ofNat 1))]⟩,.q 11 27 ⟨(some (.t 19,true)),.ia 1,[.t 24,.t 26]⟩,.q 12 28 ⟨(some (.t 19,true)),.ld1,[.t 27]⟩,.s 13 (.call (some 29) (some (.t 19,true)) less [.t 23,.t 28]) [],.q 14 30 ⟨none,.pick,[.t 19,.t 29,.c (.bool false)]⟩]
def insSwap : DC := .dr [.q 0 33 ⟨none,.mov,[.t 0]⟩,.q 1 34 ⟨none,.mov,[.t 7]⟩,.q 2 35 ⟨none,.mov,[.t 0]⟩,.q 3 36 ⟨none,.mov,[.t 7]⟩,.q 4 37 ⟨none,.bin .sub,[.t 36,.c (.int .i64 (.ofNat 1))]⟩,.q 5 38 ⟨none,.mov,[.t 0]⟩,.q 6 39 ⟨none,.mov,[.t 7]⟩,.q 7 40 ⟨none,.bin .sub,[.t 39,.c (.int .i64 (.ofNat 1))]⟩,.q 8 41 ⟨none,.ia 1,[.t 38,.t 40]⟩,.q 9 42 ⟨none,.ld1,[.t 41]⟩,.q 10 43 ⟨none,.mov,[.t 0]⟩,.q 11 44 ⟨none,.mov,[.t 7]⟩,.q 12 45 ⟨none,.ia 1,[.t 43,.t 44]⟩,.q 13 46 ⟨none,.ld1,[.t 45]⟩,.q 14 47 ⟨none,.ia 1,[.t 33,.t 34]⟩,.s 15 (.s none none (.st 1) [.t 47,.t 42]) [],.q 16 48 ⟨none,.ia 1,[.t 35,.t 37]⟩,.s 17 (.s none none (.st 1) [.t 48,.t 46]) []]
def insDec : DC := .ops [⟨[⟨none,.mov,[.t 7]⟩,⟨none,.bin .sub,[.e 0,.c (.int .i64 (.ofNat 1))]⟩,⟨none,.mov,[.e 0]⟩],[(7,0)],.nop⟩]
def insIn (less : Nat) : DC := .seq (.seq (insAsk less) (.cond (.t 30) .skip (.exit 2))) (.seq (.block 3 insSwap) insDec)
def insInc : DC := .ops [⟨[⟨none,.mov,[.t 6]⟩,⟨none,.bin .add,[.e 0,.c (.int .i64 (.ofNat 1))]⟩,⟨none,.mov,[.e 0]⟩],[(6,0)],.nop⟩]
def insOut (less : Nat) : DC := .seq (.seq (.ops [⟨[⟨none,.mov,[.t 6]⟩,⟨none,.mov,[.t 2]⟩,⟨none,.bin .lss,[.e 1,.e 0]⟩],[(12,0)],.nop⟩]) (.cond (.t 12) .skip (.exit 0))) (.seq (.block 1 (.seq (.ops [⟨[⟨none,.mov,[.t 6]⟩,⟨none,.mov,[.e 0]⟩],[(7,0)],.nop⟩]) (.block 2 (.loop (insIn less))))) insInc)
def dIns (less : Nat) : DF := ⟨49,562943510909127,(.seq (.ops [⟨[⟨none,.mov,[.t 1]⟩,⟨none,.bin .add,[.e 0,.c (.int .i64 (.ofNat 1))]⟩,⟨none,.mov,[.e 0]⟩],[(6,0)],.nop⟩]) (.block 0 (.loop (insOut less)))),[]⟩

attribute [local simp] step stepRun stepC stepC1 doSeg doFin evalQ guardOk evalXs evalX writeOuts leave_ret leave_end Fin.dst qop qMov qBin qUn qConv qIa qIap qLd1 qExt qNilc qFa qEqv qPick eqAny flatEq evalQs_nil evalQs_cons T.get_set nth_zero nth_succ endsR_go endsR_done endsR_fork bin strBin kEq exitTo tuple results callFn sop enter stepDr callVal recheck

theorem sEq_refl (a n : Nat) : sEq a n a n = true := by simp [sEq]
theorem less_ok {less nan : Nat} (hl : ft.get less = some (dLess nan)) (hb : big.get less = none) (hn : ft.get nan = some dNan) (hnb : big.get nan = none) {fr fr' : AF} {cs : List AF} {H : T AO} {nx : Nat} {x y : Nat × Nat}
    (hf : finish fr (.bool (sLt x y)) = some fr') (hE : Ends ft big Q ⟨fr', cs, H, nx⟩) : EndsR ft big Q (callFn ft big fr cs H nx less [.str x.1 x.2, .str y.1 y.2]) := by
  simp [-Int.ofNat_eq_natCast, hb, hl, dLess, treeOf_two]
  apply ends_of; simp [-Int.ofNat_eq_natCast, finish]
  apply ends_of; simp [-Int.ofNat_eq_natCast, finish, hnb, hn, dNan, treeOf_one]
  apply ends_of; simp [-Int.ofNat_eq_natCast, finish]
  apply ends_of; simp [-Int.ofNat_eq_natCast, finish, sEq_refl]
  apply ends_of; simp [-Int.ofNat_eq_natCast, finish]
  refine ends_ret hn (l := [.bool false]) (by simp [-Int.ofNat_eq_natCast, dNan]) (by simp only [finish, Go.Md.tuple]; rfl) ?_
  apply ends_of; simp [-Int.ofNat_eq_natCast, finish]
  apply ends_of; simp [-Int.ofNat_eq_natCast, finish]
  apply ends_of; simp [-Int.ofNat_eq_natCast, finish]
  refine ends_ret hl (l := [.bool (sLt x y)]) (by simp [-Int.ofNat_eq_natCast, dLess, sLt]) hf hE

/-! what the cells hold -/
def Cnt (l : T AV) (L : List (Nat × Nat)) : Prop := ∀ p v, L[p]? = some v → l.get p = some (.str v.1 v.2)
structure Row (H0 H : T AO) (id n : Nat) (o : Bool) (l : T AV) (L : List (Nat × Nat)) : Prop where
  get : H.get id = some (.cells l n false o 1)
  cnt : Cnt l L
  len : L.length = n
  oth : ∀ i, i ≠ id → H.get i = H0.get i
theorem Row.load {H0 H : T AO} {id n : Nat} {o : Bool} {l : T AV} {L : List (Nat × Nat)} (R : Row H0 H id n o l L) {p : Nat} {v : Nat × Nat} (hp : L[p]? = some v) : load1 H id p = some (.str v.1 v.2) := by
  have hlt : p < n := by rw [← R.len]; exact (List.getElem?_eq_some_iff.1 hp).1
  unfold load1
  rw [R.get]
  simp only [blt_t hlt]
  exact R.cnt p v hp
theorem Row.store {H0 H : T AO} {id n : Nat} {o : Bool} {l : T AV} {L : List (Nat × Nat)} (R : Row H0 H id n o l L) {p : Nat} (hp : p < n) (v : Nat × Nat) :
    ∃ l', storeCells H id p [.str v.1 v.2] = some (H.set id (.cells l' n false o 1)) ∧ Row H0 (H.set id (.cells l' n false o 1)) id n o l' (L.set p v) := by
  refine ⟨l.set p (.str v.1 v.2), ?_, ?_, ?_, ?_, ?_⟩
  · unfold storeCells
    have : Nat.ble (Nat.add p 1) n = true := ble_t hp
    simp only [allOne, AV.one, R.get, List.length_cons, List.length_nil, Nat.zero_add, this, writeCells]
  · simp
  · intro q u hq
    rw [List.getElem?_set] at hq
    rw [T.get_set]
    split at hq
    · rename_i e
      subst e
      rw [if_pos rfl]
      split at hq
      · cases hq; rfl
      · cases hq
    · rename_i e
      rw [if_neg e]
      exact R.cnt q u hq
  · rw [List.length_set]; exact R.len
  · intro i hi
    rw [T.get_set_other _ _ (Ne.symm hi)]; exact R.oth i hi
theorem i64_sub1 {j : Nat} (h : j < 1073741824) : fwrap .i64 (Int.sub (.ofNat (j + 1)) (.ofNat 1)) = .ofNat j := by
  have : Int.sub (.ofNat (j + 1)) (.ofNat 1) = .ofNat j := by
    show ((j + 1 : Nat) : Int) - 1 = (j : Int)
    omega
  rw [this, i64_id (by omega)]

theorem ins_in {less nan f id n i : Nat} {o : Bool} {H0 : T AO} {nx2 : Nat} {k : List AI} {cs : List AF} (hl : ft.get less = some (dLess nan)) (hb : big.get less = none) (hn : ft.get nan = some dNan) (hnb : big.get nan = none) (hn12 : n ≤ 12) {T1 : List (Nat × Nat)} {L0 : List (Nat × Nat)} {t2 t6 : AV}
    (hk : ∀ (tm : T AV) (H : T AO) (l : T AV) (L : List (Nat × Nat)), L.Perm L0 → Row H0 H id n o l (L ++ T1) → Srt L → L.length = i + 1 → tm.get 0 = some (.sl id 0 n none) → tm.get 1 = some (.int .i64 (.ofNat 0)) → tm.get 2 = some t2 → tm.get 6 = some t6 → Ends ft big Q ⟨⟨f, tm, k, none, [], false⟩, cs, H, nx2⟩) :
    ∀ (P1 : List (Nat × Nat)) (x : Nat × Nat) (S : List (Nat × Nat)) (tm : T AV) (H : T AO) (l : T AV), (P1 ++ x :: S).Perm L0 → Row H0 H id n o l ((P1 ++ x :: S) ++ T1) → Srt (P1 ++ S) → (∀ s ∈ S, ks x ≤ ks s) → (P1 ++ x :: S).length = i + 1 →
      tm.get 0 = some (.sl id 0 n none) → tm.get 1 = some (.int .i64 (.ofNat 0)) → tm.get 2 = some t2 → tm.get 6 = some t6 → tm.get 7 = some (.int .i64 (.ofNat P1.length)) →
      Ends ft big Q ⟨⟨f, tm, .c (insIn less) :: .lp (insIn less) :: .blk 2 :: k, none, [], false⟩, cs, H, nx2⟩ := by
  intro P1
  induction hP : P1.length generalizing P1 with
  | zero =>
    intro x S tm H l hp hR hs hx hi h0 h1 h2 h6 h7
    have : P1 = [] := List.eq_nil_of_length_eq_zero hP
    subst this
    have hz : iLt (.ofNat 0) (.ofNat 0) = false := rfl
    apply ends_of; simp [-Int.ofNat_eq_natCast, insIn, insAsk]
    apply ends_of; simp [-Int.ofNat_eq_natCast]
    apply ends_of; simp [-Int.ofNat_eq_natCast, h7]
    apply ends_of; simp [-Int.ofNat_eq_natCast, h1]
    apply ends_of; simp [-Int.ofNat_eq_natCast, intBin, hz]
    iterate 10 (apply ends_of; simp [-Int.ofNat_eq_natCast, Bool.rec])
    iterate 6 (apply ends_of; simp [-Int.ofNat_eq_natCast, finish])
    exact hk _ H l (x :: S) hp hR (List.pairwise_cons.2 ⟨hx, by rw [List.nil_append] at hs; exact hs⟩) hi (by simp [h0]) (by simp [h1]) (by simp [h2]) (by simp [h6])
  | succ m ih =>
    intro x S tm H l hp hR hs hx hi h0 h1 h2 h6 h7
    obtain ⟨P2, y, rfl⟩ : ∃ P2 y, P1 = P2 ++ [y] := by
      rcases List.eq_nil_or_concat P1 with h | ⟨a, b, h⟩
      · subst h; cases hP
      · exact ⟨a, b, by simpa using h⟩
    have hlen : P2.length = m := by simpa using hP
    have hnl : m + 1 < n := by
      have := hR.len
      simp only [List.length_append, List.length_cons, List.length_nil] at this
      omega
    have hgt : iLt 0 (.ofNat (m + 1)) = true := by
      show Nat.blt 0 (m + 1) = true
      exact blt_t (Nat.succ_pos m)
    have hsub : fwrap .i64 ((Int.ofNat (m + 1)).sub 1) = .ofNat m := i64_sub1 (by omega)
    have g1 : ((P2 ++ [y] ++ x :: S) ++ T1)[m + 1]? = some x := by simp [hlen, List.getElem?_append]
    have g0 : ((P2 ++ [y] ++ x :: S) ++ T1)[m]? = some y := by simp [hlen, List.getElem?_append]
    have l1 := hR.load g1
    have l0 := hR.load g0
    have b1 : Nat.blt (m + 1) n = true := blt_t hnl
    have b0 : Nat.blt m n = true := blt_t (by omega)
    apply ends_of; simp [-Int.ofNat_eq_natCast, insIn, insAsk]
    apply ends_of; simp [-Int.ofNat_eq_natCast]
    apply ends_of; simp [-Int.ofNat_eq_natCast, h7]
    apply ends_of; simp [-Int.ofNat_eq_natCast, h1]
    apply ends_of; simp [-Int.ofNat_eq_natCast, intBin, hgt]
    iterate 10 (apply ends_of; simp [-Int.ofNat_eq_natCast, Bool.rec, h0, h7, b1, b0, l1, l0, intBin, hgt, hsub])
    apply ends_of; simp [-Int.ofNat_eq_natCast, -callFn]
    refine less_ok hl hb hn hnb (x := x) (y := y) (by simp only [finish]; rfl) ?_
    rw [List.append_assoc, List.singleton_append] at hp
    cases hlt : sLt x y with
    | false =>
      rw [sLt_eq, decide_eq_false_iff_not] at hlt
      have hyx : ks y ≤ ks x := List.not_lt.1 hlt
      iterate 5 (apply ends_of; simp [-Int.ofNat_eq_natCast])
      refine hk _ H l (P2 ++ [y] ++ x :: S) (by rw [List.append_assoc, List.singleton_append]; exact hp) hR ?_ hi (by simp [h0]) (by simp [h1]) (by simp [h2]) (by simp [h6])
      unfold Srt at hs ⊢
      rw [List.pairwise_append] at hs ⊢
      obtain ⟨s1, s2, s3⟩ := hs
      refine ⟨s1, List.pairwise_cons.2 ⟨hx, s2⟩, fun a ha b hb => ?_⟩
      rcases List.mem_cons.1 hb with rfl | hb
      · rcases List.mem_append.1 ha with ha | ha
        · rw [List.pairwise_append] at s1
          exact List.le_trans (s1.2.2 a ha y (by simp)) hyx
        · simp at ha; subst ha; exact hyx
      · exact s3 a ha b hb
    | true =>
      rw [sLt_eq, decide_eq_true_eq] at hlt
      have hxy : ks x ≤ ks y := List.le_of_lt hlt
      obtain ⟨l1', e1, R1⟩ := hR.store hnl y
      obtain ⟨l2', e2, R2⟩ := R1.store (p := m) (by omega) x
      iterate 7 (apply ends_of; simp [-Int.ofNat_eq_natCast, insSwap, insDec])
      iterate 15 (apply ends_of; simp [-Int.ofNat_eq_natCast, h0, h7, b1, b0, l1, l0, intBin, hsub])
      apply ends_of; simp [-Int.ofNat_eq_natCast, sSt, AV.cells, e1, finish]
      apply ends_of; simp [-Int.ofNat_eq_natCast]
      apply ends_of; simp [-Int.ofNat_eq_natCast, b0]
      apply ends_of; simp [-Int.ofNat_eq_natCast, sSt, AV.cells, e2, finish]
      have hs' : Srt (P2 ++ y :: S) := by rw [List.append_assoc, List.singleton_append] at hs; exact hs
      iterate 3 (apply ends_of; simp [-Int.ofNat_eq_natCast])
      apply ends_of; simp [-Int.ofNat_eq_natCast, h7, intBin, hsub]
      apply ends_of; simp [-Int.ofNat_eq_natCast]
      have hset : ((P2 ++ [y] ++ x :: S ++ T1).set (m + 1) y).set m x = (P2 ++ x :: (y :: S)) ++ T1 := by
        subst hlen
        simp [List.set_append]
      rw [hset] at R2
      refine ih P2 hlen x (y :: S) _ _ l2' ?_ R2 hs' ?_ ?_ (by simp [h0]) (by simp [h1]) (by simp [h2]) (by simp [h6]) (by simp [hlen])
      · exact ((List.Perm.swap y x S).append_left P2).trans hp
      · intro s hm
        rcases List.mem_cons.1 hm with rfl | hm
        · exact hxy
        · exact hx s hm
      · simp only [List.length_append, List.length_cons, List.length_nil] at hi ⊢
        omega

theorem ins_out {less nan f id n : Nat} {o : Bool} {H0 : T AO} {nx2 : Nat} {fr : AF} {cs : List AF} (hft : ft.get f = some (dIns less)) (hl : ft.get less = some (dLess nan)) (hb : big.get less = none) (hn : ft.get nan = some dNan) (hnb : big.get nan = none) (hn12 : n ≤ 12) {L0 : List (Nat × Nat)}
    (hfin : ∀ H' l' L', L'.Perm L0 → Srt L' → Row H0 H' id n o l' L' → ∃ fr', finish fr .undef = some fr' ∧ Ends ft big Q ⟨fr', cs, H', nx2⟩) :
    ∀ (k i : Nat) (Sd T1 : List (Nat × Nat)) (tm : T AV) (H : T AO) (l : T AV), i + k = n → Sd.length = i → Srt Sd → (Sd ++ T1).Perm L0 → Row H0 H id n o l (Sd ++ T1) →
      tm.get 0 = some (.sl id 0 n none) → tm.get 1 = some (.int .i64 (.ofNat 0)) → tm.get 2 = some (.int .i64 (.ofNat n)) → tm.get 6 = some (.int .i64 (.ofNat i)) →
      Ends ft big Q ⟨⟨f, tm, [.c (insOut less), .lp (insOut less), .blk 0], none, [], false⟩, fr :: cs, H, nx2⟩ := by
  intro k
  induction k with
  | zero =>
    intro i Sd T1 tm H l hk hlen hs hp hR h0 h1 h2 h6
    have hi : i = n := by omega
    subst hi
    have hT : T1 = [] := by
      have := hR.len
      simp only [List.length_append] at this
      exact List.eq_nil_of_length_eq_zero (by omega)
    subst hT
    rw [List.append_nil] at hp hR
    have hlt : iLt (.ofNat i) (.ofNat i) = false := blt_f (Nat.lt_irrefl i)
    apply ends_of; simp [-Int.ofNat_eq_natCast, insOut]
    apply ends_of; simp [-Int.ofNat_eq_natCast, h6, h2, intBin, hlt, finish]
    apply ends_of; simp [-Int.ofNat_eq_natCast]
    apply ends_of; simp [-Int.ofNat_eq_natCast]
    apply ends_of; simp [-Int.ofNat_eq_natCast]
    obtain ⟨fr', hf, hE⟩ := hfin H l Sd hp hs hR
    exact ends_ret hft (l := []) rfl hf hE
  | succ k ih =>
    intro i Sd T1 tm H l hk hlen hs hp hR h0 h1 h2 h6
    obtain ⟨x, T2, rfl⟩ : ∃ x T2, T1 = x :: T2 := by
      cases T1 with
      | nil =>
        have := hR.len
        simp only [List.append_nil] at this
        omega
      | cons x T2 => exact ⟨x, T2, rfl⟩
    have hlt : iLt (.ofNat i) (.ofNat n) = true := blt_t (by omega)
    have hadd : fwrap .i64 (Int.ofNat i + 1) = .ofNat (i + 1) := i64_add1' (by omega)
    have e1 : Sd ++ x :: T2 = (Sd ++ x :: []) ++ T2 := by simp
    apply ends_of; simp [-Int.ofNat_eq_natCast, insOut]
    apply ends_of; simp [-Int.ofNat_eq_natCast, h6, h2, intBin, hlt, finish]
    apply ends_of; simp [-Int.ofNat_eq_natCast]
    apply ends_of; simp [-Int.ofNat_eq_natCast]
    apply ends_of; simp [-Int.ofNat_eq_natCast]
    apply ends_of; simp [-Int.ofNat_eq_natCast, h6, finish]
    apply ends_of; simp [-Int.ofNat_eq_natCast]
    apply ends_of; simp [-Int.ofNat_eq_natCast]
    refine ins_in (i := i) (T1 := T2) (L0 := Sd ++ x :: []) (t2 := .int .i64 (.ofNat n)) (t6 := .int .i64 (.ofNat i)) (H0 := H0) (id := id) (n := n) (o := o) hl hb hn hnb hn12 ?_ Sd x [] _ H l (.refl _) (by rw [← e1]; exact hR) (by simpa using hs) (fun s hm => by cases hm) (by simp [hlen]) (by simp [h0]) (by simp [h1]) (by simp [h2]) (by simp [h6]) (by simp [hlen])
    intro tm' H' l' L hp' hR' hs' hlen' g0 g1 g2 g6
    apply ends_of; simp [-Int.ofNat_eq_natCast, insInc]
    apply ends_of; simp [-Int.ofNat_eq_natCast, g6, intBin, hadd, finish]
    apply ends_of; simp [-Int.ofNat_eq_natCast]
    refine ih (i + 1) L T2 _ H' l' (by omega) hlen' hs' ?_ hR' (by simp [g0]) (by simp [g1]) (by simp [g2]) (by simp)
    exact (hp'.append_right T2).trans (by rw [← e1]; exact hp)

theorem ins_ok {less nan f id n : Nat} {o : Bool} {H : T AO} {nx2 : Nat} {fr : AF} {cs : List AF} (hft : ft.get f = some (dIns less)) (hfb : big.get f = none) (hl : ft.get less = some (dLess nan)) (hb : big.get less = none) (hn : ft.get nan = some dNan) (hnb : big.get nan = none) (hn12 : n ≤ 12) {L0 : List (Nat × Nat)} {l : T AV} (hR : Row H H id n o l L0) (h1n : 1 ≤ n)
    (hfin : ∀ H' l' L', L'.Perm L0 → Srt L' → Row H H' id n o l' L' → ∃ fr', finish fr .undef = some fr' ∧ Ends ft big Q ⟨fr', cs, H', nx2⟩) :
    EndsR ft big Q (callFn ft big fr cs H nx2 f [.sl id 0 n none, .int .i64 (.ofNat 0), .int .i64 (.ofNat n)]) := by
  obtain ⟨x, T1, rfl⟩ : ∃ x T1, L0 = x :: T1 := by
    cases L0 with
    | nil => have := hR.len; simp only [List.length_nil] at this; omega
    | cons x T1 => exact ⟨x, T1, rfl⟩
  have h01 : fwrap .i64 1 = .ofNat 1 := rfl
  simp [-Int.ofNat_eq_natCast, hfb, hft, dIns, treeOf_three]
  apply ends_of; simp [-Int.ofNat_eq_natCast, intBin, finish]
  apply ends_of; simp [-Int.ofNat_eq_natCast]
  apply ends_of; simp [-Int.ofNat_eq_natCast]
  refine ins_out (H0 := H) (id := id) (n := n) (o := o) (L0 := x :: T1) hft hl hb hn hnb hn12 hfin (n - 1) 1 [x] T1 _ H l (by omega) rfl (by simp [Srt]) (.refl _) hR (by simp) (by simp) (by simp) ?_
  simp
  rfl
end Go.Md
end
