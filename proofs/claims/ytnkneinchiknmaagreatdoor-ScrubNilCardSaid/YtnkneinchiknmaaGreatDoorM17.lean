import Derived.Test.YtnkneinchiknmaaGreatDoorM16
set_option linter.unusedVariables false
set_option linter.unusedSimpArgs false
set_option linter.unusedSectionVars false
section
/- slices.Sort of at most twelve texts: D's code sorts. No condition but that the code is so. -/
namespace Go.Md
variable {P : Program} {ft : FT} {big : Big} {Q : AV → T AO → Nat → Prop}

/-! the order -/
def ks (x : Nat × Nat) : List UInt8 := unpackN x.1 x.2
def Wf (x : Nat × Nat) : Prop := x.1 < 256 ^ x.2
theorem bytesLess_lt : ∀ a b : List UInt8, Op.bytesLess a b = decide (a < b)
  | _, [] => by simp [Op.bytesLess]
  | [], _ :: _ => by simp [Op.bytesLess]
  | a :: x, b :: y => by
    simp only [Op.bytesLess, bytesLess_lt x y, List.cons_lt_cons_iff]
    by_cases h1 : a < b <;> by_cases h2 : a = b <;> by_cases h3 : x < y <;> simp [h1, h2, h3]
theorem sLt_eq (x y : Nat × Nat) : sLt x y = decide (ks x < ks y) := by
  unfold sLt
  rw [unpackN_lt (show x.2 < Nat.add x.2 1 from Nat.lt_succ_self _), bytesLess_lt]
  rfl
theorem strLt_eq (x y : Nat × Nat) : strLt (x.2 + 1) x.1 x.2 y.1 y.2 = decide (ks x < ks y) := sLt_eq x y
def Srt (l : List (Nat × Nat)) : Prop := l.Pairwise fun x y => ks x ≤ ks y
theorem ks_inj {x y : Nat × Nat} (hx : Wf x) (hy : Wf y) (h : ks x = ks y) : x = y := by
  have hl : x.2 = y.2 := by
    have := congrArg List.length h
    simpa [ks, unpackN_length] using this
  obtain ⟨a, n⟩ := x
  obtain ⟨b, m⟩ := y
  simp only at hl
  subst hl
  have e : a = b := unpackN_inj hx hy h
  rw [e]
theorem srt_unique {a b : List (Nat × Nat)} (hp : a.Perm b) (hw : ∀ x ∈ a, Wf x) (ha : Srt a) (hb : Srt b) : a = b :=
  List.Perm.eq_of_pairwise (fun x y hx hy h1 h2 => ks_inj (hw x hx) (hw y (hp.mem_iff.2 hy)) (List.le_antisymm h1 h2)) ha hb hp
theorem insS_perm (x : Nat × Nat) : ∀ l, (insS x l).Perm (x :: l)
  | [] => .refl _
  | y :: r => by
    simp only [insS]
    split
    · exact .refl _
    · exact ((insS_perm x r).cons y).trans (.swap _ _ _)
theorem insS_srt (x : Nat × Nat) : ∀ l, Srt l → Srt (insS x l)
  | [], _ => by simp [insS, Srt]
  | y :: r, h => by
    simp only [insS]
    unfold Srt at h ⊢
    rw [List.pairwise_cons] at h
    split
    · rename_i hs
      rw [sLt_eq, decide_eq_true_eq] at hs
      have hxy : ks x ≤ ks y := List.le_of_lt hs
      rw [List.pairwise_cons]
      exact ⟨fun z hz => by
        rcases List.mem_cons.1 hz with rfl | hz
        · exact hxy
        · exact List.le_trans hxy (h.1 z hz), List.pairwise_cons.2 h⟩
    · rename_i hs
      rw [sLt_eq, decide_eq_false_iff_not] at hs
      rw [List.pairwise_cons]
      refine ⟨fun z hz => ?_, insS_srt x r h.2⟩
      rcases List.mem_cons.1 ((insS_perm x r).mem_iff.1 hz) with rfl | hz
      · exact List.not_lt.1 hs
      · exact h.1 z hz
theorem sortS_perm : ∀ l, (sortS l).Perm l
  | [] => .refl _
  | x :: r => (insS_perm x (sortS r)).trans ((sortS_perm r).cons x)
theorem sortS_srt : ∀ l, Srt (sortS l)
  | [] => by simp [sortS, Srt]
  | x :: r => insS_srt x _ (sortS_srt r)

/-! codes -/
def dNan : DF := ⟨6,5,(.seq (.ops [⟨[⟨none,.mov,[.c (.bool false)]⟩],[(2,0)],.nop⟩]) (.seq (.ops [⟨[⟨none,.mov,[.t 0]⟩,⟨none,.mov,[.t 0]⟩,⟨none,.bin .neq,[.e 1,.e 0]⟩,⟨none,.mov,[.e 0]⟩],[(2,0)],.nop⟩]) .ret)),[.t 2]⟩
def dLess (nan : Nat) : DF := ⟨17,723,(.seq (.ops [⟨[⟨none,.mov,[.c (.bool false)]⟩],[(4,0)],.nop⟩]) (.seq (.ops [⟨[⟨none,.mov,[.t 0]⟩],[],.call (some 6) none nan [.e 0]⟩,⟨[⟨none,.mov,[.t 6]⟩,⟨(some (.e 0,true)),.mov,[.t 1]⟩],[(7,1)],.call (some 9) (some (.e 1,true)) nan [.e 0]⟩,⟨[⟨(some (.t 7,true)),.un .not,[.t 9]⟩,⟨none,.pick,[.t 7,.e 0,.c (.bool false)]⟩,⟨none,.mov,[.e 0]⟩,⟨(some (.e 0,false)),.mov,[.t 0]⟩,⟨(some (.e 1,false)),.mov,[.t 1]⟩,⟨(some (.e 2,false)),.bin .lss,[.e 1,.e 0]⟩,⟨none,.pick,[.e 3,.c (.bool true),.e 0]⟩,⟨none,.mov,[.e 0]⟩],[(4,0)],.nop⟩]) .ret)),[.t 4]⟩
def insAsk (less : Nat) : DC := .dr [.q 0 16 ⟨none,.mov,[.t 7]⟩,.q 1 17 ⟨none,.mov,[.t 1]⟩,.q 2 18 ⟨none,.bin .gtr,[.t 16,.t 17]⟩,.q 3 19 ⟨none,.mov,[.t 18]⟩,.q 4 20 ⟨(some (.t 19,true)),.mov,[.t 0]⟩,.q 5 21 ⟨(some (.t 19,true)),.mov,[.t 7]⟩,.q 6 22 ⟨(some (.t 19,true)),.ia 1,[.t 20,.t 21]⟩,.q 7 23 ⟨(some (.t 19,true)),.ld1,[.t 22]⟩,.q 8 24 ⟨(some (.t 19,true)),.mov,[.t 0]⟩,.q 9 25 ⟨(some (.t 19,true)),.mov,[.t 7]⟩,.q 10 26 ⟨(some (.t 19,true)),.bin .sub,[.t 25,.c (.int .i64 (.ofNat 1))]⟩,.q 11 27 ⟨(some (.t 19,true)),.ia 1,[.t 24,.t 26]⟩,.q 12 28 ⟨(some (.t 19,true)),.ld1,[.t 27]⟩,.s 13 (.call (some 29) (some (.t 19,true)) less [.t 23,.t 28]) [],.q 14 30 ⟨none,.pick,[.t 19,.t 29,.c (.bool false)]⟩]
def insSwap : DC := .dr [.q 0 33 ⟨none,.mov,[.t 0]⟩,.q 1 34 ⟨none,.mov,[.t 7]⟩,.q 2 35 ⟨none,.mov,[.t 0]⟩,.q 3 36 ⟨none,.mov,[.t 7]⟩,.q 4 37 ⟨none,.bin .sub,[.t 36,.c (.int .i64 (.ofNat 1))]⟩,.q 5 38 ⟨none,.mov,[.t 0]⟩,.q 6 39 ⟨none,.mov,[.t 7]⟩,.q 7 40 ⟨none,.bin .sub,[.t 39,.c (.int .i64 (.ofNat 1))]⟩,.q 8 41 ⟨none,.ia 1,[.t 38,.t 40]⟩,.q 9 42 ⟨none,.ld1,[.t 41]⟩,.q 10 43 ⟨none,.mov,[.t 0]⟩,.q 11 44 ⟨none,.mov,[.t 7]⟩,.q 12 45 ⟨none,.ia 1,[.t 43,.t 44]⟩,.q 13 46 ⟨none,.ld1,[.t 45]⟩,.q 14 47 ⟨none,.ia 1,[.t 33,.t 34]⟩,.s 15 (.s none none (.st 1) [.t 47,.t 42]) [],.q 16 48 ⟨none,.ia 1,[.t 35,.t 37]⟩,.s 17 (.s none none (.st 1) [.t 48,.t 46]) []]
def insDec : DC := .ops [⟨[⟨none,.mov,[.t 7]⟩,⟨none,.bin .sub,[.e 0,.c (.int .i64 (.ofNat 1))]⟩,⟨none,.mov,[.e 0]⟩],[(7,0)],.nop⟩]
def insIn (less : Nat) : DC := .seq (.seq (insAsk less) (.cond (.t 30) .skip (.exit 2))) (.seq (.block 3 insSwap) insDec)
def insInc : DC := .ops [⟨[⟨none,.mov,[.t 6]⟩,⟨none,.bin .add,[.e 0,.c (.int .i64 (.ofNat 1))]⟩,⟨none,.mov,[.e 0]⟩],[(6,0)],.nop⟩]
def insOut (less : Nat) : DC := .seq (.seq (.ops [⟨[⟨none,.mov,[.t 6]⟩,⟨none,.mov,[.t 2]⟩,⟨none,.bin .lss,[.e 1,.e 0]⟩],[(12,0)],.nop⟩]) (.cond (.t 12) .skip (.exit 0))) (.seq (.block 1 (.seq (.ops [⟨[⟨none,.mov,[.t 6]⟩,⟨none,.mov,[.e 0]⟩],[(7,0)],.nop⟩]) (.block 2 (.loop (insIn less))))) insInc)
def dIns (less : Nat) : DF := ⟨49,562943510909127,(.seq (.ops [⟨[⟨none,.mov,[.t 1]⟩,⟨none,.bin .add,[.e 0,.c (.int .i64 (.ofNat 1))]⟩,⟨none,.mov,[.e 0]⟩],[(6,0)],.nop⟩]) (.block 0 (.loop (insOut less)))),[]⟩

attribute [local simp] step stepRun stepC stepC1 doSeg doFin evalQ guardOk evalXs evalX writeOuts leave_ret leave_end Fin.dst qop qMov qBin qUn qConv qIa qIap qLd1 qExt qNilc qFa qEqv qPick eqAny flatEq evalQs_nil evalQs_cons T.get_set nth_zero nth_succ endsR_go endsR_done endsR_fork bin strBin kEq exitTo tuple results callFn sop enter stepDr callVal recheck

theorem sEq_refl (a n : Nat) : sEq a n a n = true := by simp [sEq]
theorem less_ok {less nan : Nat} (hl : ft.get less = some (dLess nan)) (hb : big.get less = none) (hn : ft.get nan = some dNan) (hnb : big.get nan = none) {fr fr' : AF} {cs : List AF} {H : T AO} {nx : Nat} {x y : Nat × Nat}
    (hf : finish fr (.bool (sLt x y)) = some fr') (hE : Ends ft big Q ⟨fr', cs, H, nx⟩) : EndsR ft big Q (callFn ft big fr cs H nx less [.str x.1 x.2, .str y.1 y.2]) := by
  simp [-Int.ofNat_eq_natCast, hb, hl, dLess, treeOf_two]
  apply ends_of; simp [-Int.ofNat_eq_natCast, finish]
  apply ends_of; simp [-Int.ofNat_eq_natCast, finish, hnb, hn, dNan, treeOf_one]
  apply ends_of; simp [-Int.ofNat_eq_natCast, finish]
  apply ends_of; simp [-Int.ofNat_eq_natCast, finish, sEq_refl]
  apply ends_of; simp [-Int.ofNat_eq_natCast, finish]
  refine ends_ret hn (l := [.bool false]) (by simp [-Int.ofNat_eq_natCast, dNan]) (by simp only [finish, Go.Md.tuple]; rfl) ?_
  apply ends_of; simp [-Int.ofNat_eq_natCast, finish]
  apply ends_of; simp [-Int.ofNat_eq_natCast, finish]
  apply ends_of; simp [-Int.ofNat_eq_natCast, finish]
  refine ends_ret hl (l := [.bool (sLt x y)]) (by simp [-Int.ofNat_eq_natCast, dLess, sLt]) hf hE

/-! what the cells hold -/
def Cnt (l : T AV) (L : List (Nat × Nat)) : Prop := ∀ p v, L[p]? = some v → l.get p = some (.str v.1 v.2)
structure Row (H0 H : T AO) (id n : Nat) (o : Bool) (l : T AV) (L : List (Nat × Nat)) : Prop where
  get : H.get id = some (.cells l n false o 1)
  cnt : Cnt l L
  len : L.length = n
  oth : ∀ i, i ≠ id → H.get i = H0.get i
theorem Row.load {H0 H : T AO} {id n : Nat} {o : Bool} {l : T AV} {L : List (Nat × Nat)} (R : Row H0 H id n o l L) {p : Nat} {v : Nat × Nat} (hp : L[p]? = some v) : load1 H id p = some (.str v.1 v.2) := by
  have hlt : p < n := by rw [← R.len]; exact (List.getElem?_eq_some_iff.1 hp).1
  unfold load1
  rw [R.get]
  simp only [blt_t hlt]
  exact R.cnt p v hp
theorem Row.store {H0 H : T AO} {id n : Nat} {o : Bool} {l : T AV} {L : List (Nat × Nat)} (R : Row H0 H id n o l L) {p : Nat} (hp : p < n) (v : Nat × Nat) :
    ∃ l', storeCells H id p [.str v.1 v.2] = some (H.set id (.cells l' n false o 1)) ∧ Row H0 (H.set id (.cells l' n false o 1)) id n o l' (L.set p v) := by
  refine ⟨l.set p (.str v.1 v.2), ?_, ?_, ?_, ?_, ?_⟩
  · unfold storeCells
    have : Nat.ble (Nat.add p 1) n = true := ble_t hp
    simp only [allOne, AV.one, R.get, List.length_cons, List.length_nil, Nat.zero_add, this, writeCells]
  · simp
  · intro q u hq
    rw [List.getElem?_set] at hq
    rw [T.get_set]
    split at hq
    · rename_i e
      subst e
      rw [if_pos rfl]
      split at hq
      · cases hq; rfl
      · cases hq
    · rename_i e
      rw [if_neg e]
      exact R.cnt q u hq
  · rw [List.length_set]; exact R.len
  · intro i hi
    rw [T.get_set_other _ _ (Ne.symm hi)]; exact R.oth i hi
theorem i64_sub1 {j : Nat} (h : j < 1073741824) : fwrap .i64 (Int.sub (.ofNat (j + 1)) (.ofNat 1)) = .ofNat j := by
  have : Int.sub (.ofNat (j + 1)) (.ofNat 1) = .ofNat j := by
    show ((j + 1 : Nat) : Int) - 1 = (j : Int)
    omega
  rw [this, i64_id (by omega)]

theorem ins_in {less nan f id n i : Nat} {o : Bool} {H0 : T AO} {nx2 : Nat} {k : List AI} {cs : List AF} (hl : ft.get less = some (dLess nan)) (hb : big.get less = none) (hn : ft.get nan = some dNan) (hnb : big.get nan = none) (hn12 : n ≤ 12) {T1 : List (Nat × Nat)} {L0 : List (Nat × Nat)} {t2 t6 : AV}
    (hk : ∀ (tm : T AV) (H : T AO) (l : T AV) (L : List (Nat × Nat)), L.Perm L0 → Row H0 H id n o l (L ++ T1) → Srt L → L.length = i + 1 → tm.get 0 = some (.sl id 0 n none) → tm.get 1 = some (.int .i64 (.ofNat 0)) → tm.get 2 = some t2 → tm.get 6 = some t6 → Ends ft big Q ⟨⟨f, tm, k, none, [], false⟩, cs, H, nx2⟩) :
    ∀ (P1 : List (Nat × Nat)) (x : Nat × Nat) (S : List (Nat × Nat)) (tm : T AV) (H : T AO) (l : T AV), (P1 ++ x :: S).Perm L0 → Row H0 H id n o l ((P1 ++ x :: S) ++ T1) → Srt (P1 ++ S) → (∀ s ∈ S, ks x ≤ ks s) → (P1 ++ x :: S).length = i + 1 →
      tm.get 0 = some (.sl id 0 n none) → tm.get 1 = some (.int .i64 (.ofNat 0)) → tm.get 2 = some t2 → tm.get 6 = some t6 → tm.get 7 = some (.int .i64 (.ofNat P1.length)) →
      Ends ft big Q ⟨⟨f, tm, .c (insIn less) :: .lp (insIn less) :: .blk 2 :: k, none, [], false⟩, cs, H, nx2⟩ := by
  intro P1
  induction hP : P1.length generalizing P1 with
  | zero =>
    intro x S tm H l hp hR hs hx hi h0 h1 h2 h6 h7
    have : P1 = [] := List.eq_nil_of_length_eq_zero hP
    subst this
    have hz : iLt (.ofNat 0) (.ofNat 0) = false := rfl
    apply ends_of; simp [-Int.ofNat_eq_natCast, insIn, insAsk]
    apply ends_of; simp [-Int.ofNat_eq_natCast]
    apply ends_of; simp [-Int.ofNat_eq_natCast, h7]
    apply ends_of; simp [-Int.ofNat_eq_natCast, h1]
    apply ends_of; simp [-Int.ofNat_eq_natCast, intBin, hz]
    iterate 10 (apply ends_of; simp [-Int.ofNat_eq_natCast, Bool.rec])
    iterate 6 (apply ends_of; simp [-Int.ofNat_eq_natCast, finish])
    exact hk _ H l (x :: S) hp hR (List.pairwise_cons.2 ⟨hx, by rw [List.nil_append] at hs; exact hs⟩) hi (by simp [h0]) (by simp [h1]) (by simp [h2]) (by simp [h6])
  | succ m ih =>
    intro x S tm H l hp hR hs hx hi h0 h1 h2 h6 h7
    obtain ⟨P2, y, rfl⟩ : ∃ P2 y, P1 = P2 ++ [y] := by
      rcases List.eq_nil_or_concat P1 with h | ⟨a, b, h⟩
      · subst h; cases hP
      · exact ⟨a, b, by simpa using h⟩
    have hlen : P2.length = m := by simpa using hP
    have hnl : m + 1 < n := by
      have := hR.len
      simp only [List.length_append, List.length_cons, List.length_nil] at this
      omega
    have hgt : iLt 0 (.ofNat (m + 1)) = true := by
      show Nat.blt 0 (m + 1) = true
      exact blt_t (Nat.succ_pos m)
    have hsub : fwrap .i64 ((Int.ofNat (m + 1)).sub 1) = .ofNat m := i64_sub1 (by omega)
    have g1 : ((P2 ++ [y] ++ x :: S) ++ T1)[m + 1]? = some x := by simp [hlen, List.getElem?_append]
    have g0 : ((P2 ++ [y] ++ x :: S) ++ T1)[m]? = some y := by simp [hlen, List.getElem?_append]
    have l1 := hR.load g1
    have l0 := hR.load g0
    have b1 : Nat.blt (m + 1) n = true := blt_t hnl
    have b0 : Nat.blt m n = true := blt_t (by omega)
    apply ends_of; simp [-Int.ofNat_eq_natCast, insIn, insAsk]
    apply ends_of; simp [-Int.ofNat_eq_natCast]
    apply ends_of; simp [-Int.ofNat_eq_natCast, h7]
    apply ends_of; simp [-Int.ofNat_eq_natCast, h1]
    apply ends_of; simp [-Int.ofNat_eq_natCast, intBin, hgt]
    iterate 10 (apply ends_of; simp [-Int.ofNat_eq_natCast, Bool.rec, h0, h7, b1, b0, l1, l0, intBin, hgt, hsub])
    apply ends_of; simp [-Int.ofNat_eq_natCast, -callFn]
    refine less_ok hl hb hn hnb (x := x) (y := y) (by simp only [finish]; rfl) ?_
    rw [List.append_assoc, List.singleton_append] at hp
    cases hlt : sLt x y with
    | false =>
      rw [sLt_eq, decide_eq_false_iff_not] at hlt
      have hyx : ks y ≤ ks x := List.not_lt.1 hlt
      iterate 5 (apply ends_of; simp [-Int.ofNat_eq_natCast])
      refine hk _ H l (P2 ++ [y] ++ x :: S) (by rw [List.append_assoc, List.singleton_append]; exact hp) hR ?_ hi (by simp [h0]) (by simp [h1]) (by simp [h2]) (by simp [h6])
      unfold Srt at hs ⊢
      rw [List.pairwise_append] at hs ⊢
      obtain ⟨s1, s2, s3⟩ := hs
      refine ⟨s1, List.pairwise_cons.2 ⟨hx, s2⟩, fun a ha b hb => ?_⟩
      rcases List.mem_cons.1 hb with rfl | hb
      · rcases List.mem_append.1 ha with ha | ha
        · rw [List.pairwise_append] at s1
          exact List.le_trans (s1.2.2 a ha y (by simp)) hyx
        · simp at ha; subst ha; exact hyx
      · exact s3 a ha b hb
    | true =>
      rw [sLt_eq, decide_eq_true_eq] at hlt
      have hxy : ks x ≤ ks y := List.le_of_lt hlt
      obtain ⟨l1', e1, R1⟩ := hR.store hnl y
      obtain ⟨l2', e2, R2⟩ := R1.store (p := m) (by omega) x
      iterate 7 (apply ends_of; simp [-Int.ofNat_eq_natCast, insSwap, insDec])
      iterate 15 (apply ends_of; simp [-Int.ofNat_eq_natCast, h0, h7, b1, b0, l1, l0, intBin, hsub])
      apply ends_of; simp [-Int.ofNat_eq_natCast, sSt, AV.cells, e1, finish]
      apply ends_of; simp [-Int.ofNat_eq_natCast]
      apply ends_of; simp [-Int.ofNat_eq_natCast, b0]
      apply ends_of; simp [-Int.ofNat_eq_natCast, sSt, AV.cells, e2, finish]
      have hs' : Srt (P2 ++ y :: S) := by rw [List.append_assoc, List.singleton_append] at hs; exact hs
      iterate 3 (apply ends_of; simp [-Int.ofNat_eq_natCast])
      apply ends_of; simp [-Int.ofNat_eq_natCast, h7, intBin, hsub]
      apply ends_of; simp [-Int.ofNat_eq_natCast]
      have hset : ((P2 ++ [y] ++ x :: S ++ T1).set (m + 1) y).set m x = (P2 ++ x :: (y :: S)) ++ T1 := by
        subst hlen
        simp [List.set_append]
      rw [hset] at R2
      refine ih P2 hlen x (y :: S) _ _ l2' ?_ R2 hs' ?_ ?_ (by simp [h0]) (by simp [h1]) (by simp [h2]) (by simp [h6]) (by simp [hlen])
      · exact ((List.Perm.swap y x S).append_left P2).trans hp
      · intro s hm
        rcases List.mem_cons.1 hm with rfl | hm
        · exact hxy
        · exact hx s hm
      · simp only [List.length_append, List.length_cons, List.length_nil] at hi ⊢
        omega

theorem ins_out {less nan f id n : Nat} {o : Bool} {H0 : T AO} {nx2 : Nat} {fr : AF} {cs : List AF} (hft : ft.get f = some (dIns less)) (hl : ft.get less = some (dLess nan)) (hb : big.get less = none) (hn : ft.get nan = some dNan) (hnb : big.get nan = none) (hn12 : n ≤ 12) {L0 : List (Nat × Nat)}
    (hfin : ∀ H' l' L', L'.Perm L0 → Srt L' → Row H0 H' id n o l' L' → ∃ fr', finish fr .undef = some fr' ∧ Ends ft big Q ⟨fr', cs, H', nx2⟩) :
    ∀ (k i : Nat) (Sd T1 : List (Nat × Nat)) (tm : T AV) (H : T AO) (l : T AV), i + k = n → Sd.length = i → Srt Sd → (Sd ++ T1).Perm L0 → Row H0 H id n o l (Sd ++ T1) →
      tm.get 0 = some (.sl id 0 n none) → tm.get 1 = some (.int .i64 (.ofNat 0)) → tm.get 2 = some (.int .i64 (.ofNat n)) → tm.get 6 = some (.int .i64 (.ofNat i)) →
      Ends ft big Q ⟨⟨f, tm, [.c (insOut less), .lp (insOut less), .blk 0], none, [], false⟩, fr :: cs, H, nx2⟩ := by
  intro k
  induction k with
  | zero =>
    intro i Sd T1 tm H l hk hlen hs hp hR h0 h1 h2 h6
    have hi : i = n := by omega
    subst hi
    have hT : T1 = [] := by
      have := hR.len
      simp only [List.length_append] at this
      exact List.eq_nil_of_length_eq_zero (by omega)
    subst hT
    rw [List.append_nil] at hp hR
    have hlt : iLt (.ofNat i) (.ofNat i) = false := blt_f (Nat.lt_irrefl i)
    apply ends_of; simp [-Int.ofNat_eq_natCast, insOut]
    apply ends_of; simp [-Int.ofNat_eq_natCast, h6, h2, intBin, hlt, finish]
    apply ends_of; simp [-Int.ofNat_eq_natCast]
    apply ends_of; simp [-Int.ofNat_eq_natCast]
    apply ends_of; simp [-Int.ofNat_eq_natCast]
    obtain ⟨fr', hf, hE⟩ := hfin H l Sd hp hs hR
    exact ends_ret hft (l := []) rfl hf hE
  | succ k ih =>
    intro i Sd T1 tm H l hk hlen hs hp hR h0 h1 h2 h6
    obtain ⟨x, T2, rfl⟩ : ∃ x T2, T1 = x :: T2 := by
      cases T1 with
      | nil =>
        have := hR.len
        simp only [List.append_nil] at this
        omega
      | cons x T2 => exact ⟨x, T2, rfl⟩
    have hlt : iLt (.ofNat i) (.ofNat n) = true := blt_t (by omega)
    have hadd : fwrap .i64 (Int.ofNat i + 1) = .ofNat (i + 1) := i64_add1' (by omega)
    have e1 : Sd ++ x :: T2 = (Sd ++ x :: []) ++ T2 := by simp
    apply ends_of; simp [-Int.ofNat_eq_natCast, insOut]
    apply ends_of; simp [-Int.ofNat_eq_natCast, h6, h2, intBin, hlt, finish]
    apply ends_of; simp [-Int.ofNat_eq_natCast]
    apply ends_of; simp [-Int.ofNat_eq_natCast]
    apply ends_of; simp [-Int.ofNat_eq_natCast]
    apply ends_of; simp [-Int.ofNat_eq_natCast, h6, finish]
    apply ends_of; simp [-Int.ofNat_eq_natCast]
    apply ends_of; simp [-Int.ofNat_eq_natCast]
    refine ins_in (i := i) (T1 := T2) (L0 := Sd ++ x :: []) (t2 := .int .i64 (.ofNat n)) (t6 := .int .i64 (.ofNat i)) (H0 := H0) (id := id) (n := n) (o := o) hl hb hn hnb hn12 ?_ Sd x [] _ H l (.refl _) (by rw [← e1]; exact hR) (by simpa using hs) (fun s hm => by cases hm) (by simp [hlen]) (by simp [h0]) (by simp [h1]) (by simp [h2]) (by simp [h6]) (by simp [hlen])
    intro tm' H' l' L hp' hR' hs' hlen' g0 g1 g2 g6
    apply ends_of; simp [-Int.ofNat_eq_natCast, insInc]
    apply ends_of; simp [-Int.ofNat_eq_natCast, g6, intBin, hadd, finish]
    apply ends_of; simp [-Int.ofNat_eq_natCast]
    refine ih (i + 1) L T2 _ H' l' (by omega) hlen' hs' ?_ hR' (by simp [g0]) (by simp [g1]) (by simp [g2]) (by simp)
    exact (hp'.append_right T2).trans (by rw [← e1]; exact hp)

theorem ins_ok {less nan f id n : Nat} {o : Bool} {H : T AO} {nx2 : Nat} {fr : AF} {cs : List AF} (hft : ft.get f = some (dIns less)) (hfb : big.get f = none) (hl : ft.get less = some (dLess nan)) (hb : big.get less = none) (hn : ft.get nan = some dNan) (hnb : big.get nan = none) (hn12 : n ≤ 12) {L0 : List (Nat × Nat)} {l : T AV} (hR : Row H H id n o l L0) (h1n : 1 ≤ n)
    (hfin : ∀ H' l' L', L'.Perm L0 → Srt L' → Row H H' id n o l' L' → ∃ fr', finish fr .undef = some fr' ∧ Ends ft big Q ⟨fr', cs, H', nx2⟩) :
    EndsR ft big Q (callFn ft big fr cs H nx2 f [.sl id 0 n none, .int .i64 (.ofNat 0), .int .i64 (.ofNat n)]) := by
  obtain ⟨x, T1, rfl⟩ : ∃ x T1, L0 = x :: T1 := by
    cases L0 with
    | nil => have := hR.len; simp only [List.length_nil] at this; omega
    | cons x T1 => exact ⟨x, T1, rfl⟩
  have h01 : fwrap .i64 1 = .ofNat 1 := rfl
  simp [-Int.ofNat_eq_natCast, hfb, hft, dIns, treeOf_three]
  apply ends_of; simp [-Int.ofNat_eq_natCast, intBin, finish]
  apply ends_of; simp [-Int.ofNat_eq_natCast]
  apply ends_of; simp [-Int.ofNat_eq_natCast]
  refine ins_out (H0 := H) (id := id) (n := n) (o := o) (L0 := x :: T1) hft hl hb hn hnb hn12 hfin (n - 1) 1 [x] T1 _ H l (by omega) rfl (by simp [Srt]) (.refl _) hR (by simp) (by simp) (by simp) ?_
  simp
  rfl
end Go.Md
end
