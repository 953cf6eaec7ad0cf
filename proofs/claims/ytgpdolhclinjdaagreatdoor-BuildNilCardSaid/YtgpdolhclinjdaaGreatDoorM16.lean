import Derived.Test.YtgpdolhclinjdaaGreatDoorM15
set_option linter.unusedVariables false
set_option linter.unusedSimpArgs false
set_option linter.unusedSectionVars false
section
/- disk.Names: whatever the order of the files, the names are told rising. -/
namespace Go.Md
variable {P : Program} {ft : FT} {big : Big} {Q : AV → T AO → Nat → Prop}

def lenTab : Nat := 1013866857139168856493015739252390649739422828853819106890363778118420553376247557433637691341895324351018602695588957474325319502760499485336098898398377509666851054660423406800006203933793007272033180812049178612605246075062580585469430410618860250057463399279570354286669047577758927328864388992123306212451509403152394148136105363817402562688186708175358218852349079190158732807302672745370040257219644697201681238697346923541678507645485296520536209706771857694240900605172937619415410180424934769249448772944216470541052485265558808433676546390051204254346932932316488017972311616136051587427851453983453479168
def dLen64 : DF := ⟨25,16661,(.seq (.ops [⟨[⟨none,.mov,[.c (.int .i64 (.ofNat 0))]⟩],[(2,0)],.nop⟩]) (.seq (.seq (.ops [⟨[⟨none,.mov,[.t 0]⟩,⟨none,.bin .geq,[.e 0,.c (.int .u64 (.ofNat 4294967296))]⟩],[(4,0)],.nop⟩]) (.cond (.t 4) (.seq (.ops [⟨[⟨none,.mov,[.t 0]⟩,⟨none,.bin .shr,[.e 0,.c (.int .u64 (.ofNat 32))]⟩,⟨none,.mov,[.e 0]⟩],[(0,0)],.nop⟩]) (.ops [⟨[⟨none,.mov,[.c (.int .i64 (.ofNat 32))]⟩],[(2,0)],.nop⟩])) .skip)) (.seq (.seq (.ops [⟨[⟨none,.mov,[.t 0]⟩,⟨none,.bin .geq,[.e 0,.c (.int .u64 (.ofNat 65536))]⟩],[(8,0)],.nop⟩]) (.cond (.t 8) (.seq (.ops [⟨[⟨none,.mov,[.t 0]⟩,⟨none,.bin .shr,[.e 0,.c (.int .u64 (.ofNat 16))]⟩,⟨none,.mov,[.e 0]⟩],[(0,0)],.nop⟩]) (.ops [⟨[⟨none,.mov,[.t 2]⟩,⟨none,.bin .add,[.e 0,.c (.int .i64 (.ofNat 16))]⟩,⟨none,.mov,[.e 0]⟩],[(2,0)],.nop⟩])) .skip)) (.seq (.seq (.ops [⟨[⟨none,.mov,[.t 0]⟩,⟨none,.bin .geq,[.e 0,.c (.int .u64 (.ofNat 256))]⟩],[(14,0)],.nop⟩]) (.cond (.t 14) (.seq (.ops [⟨[⟨none,.mov,[.t 0]⟩,⟨none,.bin .shr,[.e 0,.c (.int .u64 (.ofNat 8))]⟩,⟨none,.mov,[.e 0]⟩],[(0,0)],.nop⟩]) (.ops [⟨[⟨none,.mov,[.t 2]⟩,⟨none,.bin .add,[.e 0,.c (.int .i64 (.ofNat 8))]⟩,⟨none,.mov,[.e 0]⟩],[(2,0)],.nop⟩])) .skip)) (.seq (.ops [⟨[⟨none,.mov,[.t 2]⟩,⟨none,.mov,[.t 0]⟩,⟨none,.conv .u8,[.e 0]⟩,⟨none,.ixs,[.c (.str lenTab 256),.e 0]⟩,⟨none,.conv .i64,[.e 0]⟩,⟨none,.bin .add,[.e 4,.e 0]⟩,⟨none,.mov,[.e 0]⟩],[(2,0)],.nop⟩]) .ret))))),[.t 2]⟩
def dLen (l32 l64 : Nat) : DF := ⟨8,165,(.seq (.ops [⟨[⟨none,.mov,[.c (.int .i64 (.ofNat 0))]⟩],[(2,0)],.nop⟩]) (.seq (.cond (.c (.bool false)) (.seq (.ops [⟨[⟨none,.mov,[.t 0]⟩,⟨none,.conv .u32,[.e 0]⟩],[],.call (some 5) none l32 [.e 0]⟩,⟨[⟨none,.mov,[.t 5]⟩],[(2,0)],.nop⟩]) .ret) .skip) (.seq (.ops [⟨[⟨none,.mov,[.t 0]⟩],[],.call (some 7) none l64 [.e 0]⟩,⟨[⟨none,.mov,[.t 7]⟩],[(2,0)],.nop⟩]) .ret))),[.t 2]⟩
def pdqBody (ins : Nat) (rest : DC) : DC := .seq (.ops [⟨[⟨none,.mov,[.c (.bool true)]⟩],[(8,0)],.nop⟩]) (.seq (.ops [⟨[⟨none,.mov,[.c (.bool true)]⟩],[(9,0)],.nop⟩]) (.block 0 (.loop (.block 1 (.seq (.ops [⟨[⟨none,.mov,[.t 2]⟩,⟨none,.mov,[.t 1]⟩,⟨none,.bin .sub,[.e 1,.e 0]⟩,⟨none,.mov,[.e 0]⟩],[(10,0)],.nop⟩]) (.seq (.seq (.ops [⟨[⟨none,.mov,[.t 10]⟩,⟨none,.bin .leq,[.e 0,.c (.int .i64 (.ofNat 12))]⟩],[(23,0)],.nop⟩]) (.cond (.t 23) (.seq (.ops [⟨[⟨none,.mov,[.t 0]⟩,⟨none,.mov,[.t 1]⟩,⟨none,.mov,[.t 2]⟩],[],.call none none ins [.e 2,.e 1,.e 0]⟩]) .ret) .skip)) rest))))))
def dSort (len pdq : Nat) : DF := ⟨11,613,(.seq (.ops [⟨[⟨none,.mov,[.t 0]⟩,⟨none,.lenl,[.e 0]⟩,⟨none,.mov,[.e 0]⟩],[(2,0)],.nop⟩]) (.ops [⟨[⟨none,.mov,[.t 0]⟩,⟨none,.mov,[.t 2]⟩,⟨none,.mov,[.t 2]⟩,⟨none,.conv .u64,[.e 0]⟩],[(5,3),(6,2)],.call (some 9) none len [.e 0]⟩,⟨[],[],.call none none pdq [.t 5,.c (.int .i64 (.ofNat 0)),.t 6,.t 9]⟩])),[]⟩

attribute [local simp] step stepRun stepC stepC1 doSeg doFin evalQ guardOk evalXs evalX writeOuts leave_ret leave_end Fin.dst qop qMov qBin qUn qConv qIa qIap qIxs qLd1 qLenl qExt qNilc qFa qEqv qPick eqAny flatEq evalQs_nil evalQs_cons T.get_set nth_zero nth_succ endsR_go endsR_done endsR_fork bin strBin kEq exitTo tuple results callFn sop enter stepDr callVal recheck

theorem treeOf_four (a b c d : AV) : treeOf [a, b, c, d] = (((T.nil.set 0 a).set 1 b).set 2 c).set 3 d := rfl
theorem u64_id {n : Nat} (h : n ≤ 12) : fwrap .u64 (.ofNat n) = .ofNat n := by
  show (match Nat.blt n 18446744073709551616 with | true => Int.ofNat n | false => _) = _
  rw [blt_t (by omega)]
theorem len_ok {len l32 l64 n : Nat} (hn12 : n ≤ 12) (hl : ft.get len = some (dLen l32 l64)) (hb : big.get len = none) (h64 : ft.get l64 = some dLen64) (h64b : big.get l64 = none) {fr : AF} {cs : List AF} {H : T AO} {nx : Nat}
    (hfin : ∀ m, ∃ fr', finish fr (.int .i64 m) = some fr' ∧ Ends ft big Q ⟨fr', cs, H, nx⟩) : EndsR ft big Q (callFn ft big fr cs H nx len [.int .u64 (.ofNat n)]) := by
  have c1 : iLt (.ofNat n) 4294967296 = true := by
    show Nat.blt n 4294967296 = true
    exact blt_t (by omega)
  have c2 : iLt (.ofNat n) 65536 = true := by
    show Nat.blt n 65536 = true
    exact blt_t (by omega)
  have c3 : iLt (.ofNat n) 256 = true := by
    show Nat.blt n 256 = true
    exact blt_t (by omega)
  have c4 : n % 256 = n := Nat.mod_eq_of_lt (by omega)
  have c5 : Nat.blt n 256 = true := blt_t (by omega)
  simp [-Int.ofNat_eq_natCast, hb, hl, dLen, treeOf_one]
  apply ends_of; simp [-Int.ofNat_eq_natCast, finish]
  apply ends_of; simp [-Int.ofNat_eq_natCast]
  apply ends_of; simp [-Int.ofNat_eq_natCast]
  apply ends_of; simp [-Int.ofNat_eq_natCast, h64, h64b, dLen64, treeOf_one]
  apply ends_of; simp [-Int.ofNat_eq_natCast, finish]
  apply ends_of; simp [-Int.ofNat_eq_natCast]
  apply ends_of; simp [-Int.ofNat_eq_natCast, finish, intBin, c1]
  apply ends_of; simp [-Int.ofNat_eq_natCast]
  apply ends_of; simp [-Int.ofNat_eq_natCast]
  apply ends_of; simp [-Int.ofNat_eq_natCast]
  apply ends_of; simp [-Int.ofNat_eq_natCast, finish, intBin, c2]
  apply ends_of; simp [-Int.ofNat_eq_natCast]
  apply ends_of; simp [-Int.ofNat_eq_natCast]
  apply ends_of; simp [-Int.ofNat_eq_natCast]
  apply ends_of; simp [-Int.ofNat_eq_natCast, finish, intBin, c3]
  apply ends_of; simp [-Int.ofNat_eq_natCast]
  apply ends_of; simp [-Int.ofNat_eq_natCast]
  apply ends_of; simp [-Int.ofNat_eq_natCast, finish, intBin, fwrap_u8, c4, c5]
  apply ends_of; simp [-Int.ofNat_eq_natCast]
  refine ends_ret h64 (by simp [-Int.ofNat_eq_natCast, dLen64]; rfl) (by simp only [finish, Go.Md.tuple]; rfl) ?_
  apply ends_of; simp [-Int.ofNat_eq_natCast, finish]
  apply ends_of; simp [-Int.ofNat_eq_natCast]
  obtain ⟨fr', hf, hE⟩ := hfin _
  exact ends_ret hl (l := [.int .i64 _]) (by simp [-Int.ofNat_eq_natCast, dLen]; rfl) hf hE

theorem pdq_ok {pdq ins less nan id n : Nat} {o : Bool} {H : T AO} {nx2 : Nat} {fr : AF} {cs : List AF} {dp : DF} {rest : DC} (hp : ft.get pdq = some dp) (hbody : dp.body = pdqBody ins rest) (hres : dp.res = []) (hpb : big.get pdq = none) (hft : ft.get ins = some (dIns less)) (hfb : big.get ins = none) (hl : ft.get less = some (dLess nan)) (hb : big.get less = none) (hn : ft.get nan = some dNan) (hnb : big.get nan = none)
    (hn12 : n ≤ 12) {L0 : List (Nat × Nat)} {l : T AV} (hR : Row H H id n o l L0) (h1n : 1 ≤ n) (lim : AV)
    (hfin : ∀ H' l' L', L'.Perm L0 → Srt L' → Row H H' id n o l' L' → ∃ fr', finish fr .undef = some fr' ∧ Ends ft big Q ⟨fr', cs, H', nx2⟩) :
    EndsR ft big Q (callFn ft big fr cs H nx2 pdq [.sl id 0 n none, .int .i64 (.ofNat 0), .int .i64 (.ofNat n), lim]) := by
  have hsub : fwrap .i64 ((Int.ofNat n).sub 0) = .ofNat n := by
    have : Int.sub (.ofNat n) 0 = .ofNat n := Int.sub_zero _
    rw [this, i64_id (by omega)]
  have hle : iLt 12 (.ofNat n) = false := by
    show Nat.blt 12 n = false
    exact blt_f (by omega)
  simp [-Int.ofNat_eq_natCast, hpb, hp, hbody, pdqBody, treeOf_four]
  apply ends_of; simp [-Int.ofNat_eq_natCast, finish]
  apply ends_of; simp [-Int.ofNat_eq_natCast, finish]
  apply ends_of; simp [-Int.ofNat_eq_natCast]
  apply ends_of; simp [-Int.ofNat_eq_natCast]
  apply ends_of; simp [-Int.ofNat_eq_natCast]
  apply ends_of; simp [-Int.ofNat_eq_natCast, finish, intBin, hsub]
  apply ends_of; simp [-Int.ofNat_eq_natCast]
  apply ends_of; simp [-Int.ofNat_eq_natCast, finish, intBin, hle]
  apply ends_of; simp [-Int.ofNat_eq_natCast]
  apply ends_of; simp [-Int.ofNat_eq_natCast, -callFn]
  refine ins_ok hft hfb hl hb hn hnb hn12 hR h1n ?_
  intro H' l' L' hp' hs' hR'
  refine ⟨_, by simp only [finish]; rfl, ?_⟩
  apply ends_of; simp [-Int.ofNat_eq_natCast]
  obtain ⟨fr', hf, hE⟩ := hfin H' l' L' hp' hs' hR'
  exact ends_ret hp (l := []) (by rw [hres]; rfl) hf hE

theorem sort_ok {srt len l32 l64 pdq ins less nan id n : Nat} {o : Bool} {H : T AO} {nx2 : Nat} {fr : AF} {cs : List AF} {dp : DF} {rest : DC} (hs : ft.get srt = some (dSort len pdq)) (hsb : big.get srt = none) (hlen : ft.get len = some (dLen l32 l64)) (hlb : big.get len = none) (h64 : ft.get l64 = some dLen64) (h64b : big.get l64 = none)
    (hp : ft.get pdq = some dp) (hbody : dp.body = pdqBody ins rest) (hres : dp.res = []) (hpb : big.get pdq = none) (hft : ft.get ins = some (dIns less)) (hfb : big.get ins = none) (hl : ft.get less = some (dLess nan)) (hb : big.get less = none) (hn : ft.get nan = some dNan) (hnb : big.get nan = none)
    (hn12 : n ≤ 12) {L0 : List (Nat × Nat)} {l : T AV} (hR : Row H H id n o l L0) (h1n : 1 ≤ n)
    (hfin : ∀ H' l' L', L'.Perm L0 → Srt L' → Row H H' id n o l' L' → ∃ fr', finish fr .undef = some fr' ∧ Ends ft big Q ⟨fr', cs, H', nx2⟩) :
    EndsR ft big Q (callFn ft big fr cs H nx2 srt [.sl id 0 n none]) := by
  simp [-Int.ofNat_eq_natCast, hsb, hs, dSort, treeOf_one]
  apply ends_of; simp [-Int.ofNat_eq_natCast, finish]
  apply ends_of; simp [-Int.ofNat_eq_natCast, -callFn, u64_id hn12]
  refine len_ok hn12 hlen hlb h64 h64b fun m => ⟨_, by simp only [finish]; rfl, ?_⟩
  apply ends_of; simp [-Int.ofNat_eq_natCast, -callFn]
  refine pdq_ok hp hbody hres hpb hft hfb hl hb hn hnb hn12 hR h1n _ ?_
  intro H' l' L' hp' hs' hR'
  refine ⟨_, by simp only [finish]; rfl, ?_⟩
  apply ends_of; simp [-Int.ofNat_eq_natCast]
  obtain ⟨fr', hf, hE⟩ := hfin H' l' L' hp' hs' hR'
  exact ends_ret hs (l := []) rfl hf hE

/-! names -/
def sv (x : Nat × Nat) : AV := .str x.1 x.2
def keyOf (e : AV × AV × Nat) : Nat × Nat := match e.1 with
  | .str a n => (a, n)
  | _ => (0, 0)
theorem strKeys_some : ∀ {es : List (AV × AV × Nat)} {l : List (Nat × Nat)}, strKeys es = some l → l = es.map keyOf ∧ ∀ e ∈ es, e.1 = sv (keyOf e)
  | [], l, h => by cases h; exact ⟨rfl, fun e he => by cases he⟩
  | (k, x) :: r, l, h => by
    simp only [strKeys] at h
    split at h
    · rename_i a n
      split at h
      · rename_i l' hl
        cases h
        obtain ⟨h1, h2⟩ := strKeys_some hl
        refine ⟨by rw [h1]; rfl, fun e he => ?_⟩
        rcases List.mem_cons.1 he with rfl | he
        · rfl
        · exact h2 e he
      · cases h
    · cases h
theorem readCells_cnt {l : T AV} {L : List (Nat × Nat)} (hc : Cnt l L) : ∀ (k off : Nat), off + k = L.length → readCells l off k = some ((L.drop off).map sv)
  | 0, off, h => by
    rw [List.drop_of_length_le (by omega)]; rfl
  | k + 1, off, h => by
    have hlt : off < L.length := by omega
    have h1 := hc off L[off] (by simp [hlt])
    have h2 := readCells_cnt hc k (off + 1) (by omega)
    have e : Nat.add off 1 = off + 1 := rfl
    simp only [readCells, h1, e, h2]
    rw [List.drop_eq_getElem_cons hlt]
    rfl
theorem allOne_sv : ∀ L : List (Nat × Nat), allOne (L.map sv) = true
  | [] => rfl
  | x :: r => by simp only [List.map_cons, allOne, sv, AV.one]; exact allOne_sv r
theorem cnt_treeOf (L : List (Nat × Nat)) : Cnt (treeOf (L.map sv)) L := by
  intro p v hp
  rw [treeOf_at]
  simp [hp, sv]

/-- the names so far -/
def Cur (H : T AO) (it nx2 : Nat) (L : List (Nat × Nat)) (t3 : AV) : Prop :=
  (L = [] ∧ t3 = .snil) ∨ ∃ id l, t3 = .sl id 0 L.length none ∧ H.get id = some (.cells l L.length false true 1) ∧ Cnt l L ∧ it < id ∧ id + 1 = nx2 ∧ 1 ≤ L.length
theorem app_step {H : T AO} {it nx2 : Nat} {L : List (Nat × Nat)} {t3 : AV} (C : Cur H it nx2 L t3) (hin : it < nx2) (hL : L.length ≤ 12) (x : Nat × Nat) (mi : AO) :
    ∃ H3, sApp false 1 [t3, .sl nx2 0 1 (some 1)] ((H.set it mi).set nx2 (.cells (treeOf [sv x]) 1 false false 1)) (Nat.add nx2 1) = some (.sl (nx2 + 1) 0 (L.length + 1) none, H3, nx2 + 2) ∧
      Cur H3 it (nx2 + 2) (L ++ [x]) (.sl (nx2 + 1) 0 (L.length + 1) none) ∧ ∀ i, i ≤ it → H3.get i = (H.set it mi).get i := by
  have hsrc : ∀ H2 : T AO, H2.get nx2 = some (.cells (treeOf [sv x]) 1 false false 1) → srcCells H2 1 (.sl nx2 0 1 (some 1)) = some ([sv x], 1) := by
    intro H2 h2
    unfold srcCells
    simp only [h2]
    have : readCells (treeOf [sv x]) 0 (Nat.mul 1 1) = some [sv x] := readCells_cnt (L := [x]) (cnt_treeOf [x]) 1 0 rfl
    simp only [this]
  have hs := hsrc _ (T.get_set_same (H.set it mi) nx2 _)
  have hone : allOne [sv x] = true := rfl
  rcases C with ⟨rfl, rfl⟩ | ⟨id, l, rfl, hg, hc, hid, hid2, hpos⟩
  · refine ⟨((H.set it mi).set nx2 (.cells (treeOf [sv x]) 1 false false 1)).set (nx2 + 1) (.cells (treeOf [sv x]) 1 false true 1), ?_, .inr ⟨nx2 + 1, treeOf [sv x], rfl, T.get_set_same _ _ _, cnt_treeOf [x], by omega, rfl, by simp⟩, fun i hi => ?_⟩
    · simp only [sApp, hs, appCells, hone, growCells]
      rfl
    · rw [T.get_set_other _ _ (by omega), T.get_set_other _ _ (by omega)]
  · have hlen : Nat.beq 1 0 = false := rfl
    have hg2 : ((H.set it mi).set nx2 (.cells (treeOf [sv x]) 1 false false 1)).get id = some (.cells l L.length false true 1) := by
      rw [T.get_set_other _ _ (by omega), T.get_set_other _ _ (by omega)]; exact hg
    have hrd : readCells l 0 (Nat.mul L.length 1) = some (L.map sv) := by
      have := readCells_cnt hc L.length 0 (by omega)
      have e : Nat.mul L.length 1 = L.length := Nat.mul_one _
      rw [e]
      simpa using this
    have hs2 : srcCells ((H.set it mi).set nx2 (.cells (treeOf [sv x]) 1 false false 1)) 1 (.sl id 0 L.length none) = some (L.map sv, L.length) := by
      unfold srcCells
      have e : Nat.mul L.length 1 = L.length := Nat.mul_one _
      have : Nat.ble (Nat.add 0 (Nat.mul L.length 1)) L.length = true := by rw [e]; exact ble_t (by show 0 + L.length ≤ L.length; omega)
      simp only [hg2, this, hrd]
    have hble : Nat.ble (Nat.add L.length 1) 67108864 = true := ble_t (by show L.length + 1 ≤ _; omega)
    refine ⟨(((H.set it mi).set nx2 (.cells (treeOf [sv x]) 1 false false 1)).del id).set (nx2 + 1) (.cells (treeOf (L.map sv ++ [sv x])) (L.map sv ++ [sv x]).length false true 1), ?_, .inr ⟨nx2 + 1, treeOf (L.map sv ++ [sv x]), by simp, ?_, ?_, by omega, rfl, by simp⟩, fun i hi => ?_⟩
    · simp only [sApp, hs, appCells, hone, hlen, hg2, hs2, growCells, newObj, Nat.beq_refl]
      simp only [hble]
    · rw [T.get_set_same]; simp
    · have := cnt_treeOf (L ++ [x])
      rw [List.map_append] at this
      exact this
    · rw [T.get_set_other _ _ (by omega), T.get_del, if_neg (by omega), T.get_set_other _ _ (by omega)]
def dNmBody : DC := .seq (.ops [⟨[],[],.nx (some 12) (.t 11)⟩,⟨[⟨none,.ext 0,[.t 12]⟩],[(13,0)],.nop⟩]) (.seq (.cond (.t 13) .skip (.exit 0)) (.block 1 (.seq (.ops [⟨[⟨none,.entm,[.t 11]⟩,⟨none,.ext 0,[.e 0]⟩,⟨none,.mov,[.e 0]⟩],[(4,0)],.nop⟩]) (.ops [⟨[⟨none,.mov,[.t 3]⟩,⟨none,.mov,[.t 4]⟩],[(16,1)],.s (some 18) none (.bsl false 1 1 [(.str 0 0)] [0]) [.e 0]⟩,⟨[],[],.s (some 19) none (.app false 1) [.t 16,.t 18]⟩,⟨[⟨none,.mov,[.t 19]⟩],[(3,0)],.nop⟩]))))
def dNmEnd (srt : Nat) : DC := .seq (.ops [⟨[⟨none,.mov,[.t 3]⟩],[],.call none none srt [.e 0]⟩]) (.seq (.ops [⟨[⟨none,.mov,[.t 3]⟩,⟨none,.mov,[.e 0]⟩],[(2,0)],.nop⟩]) .ret)
def dNames (srt : Nat) : DF := ⟨23,866397,(.seq (.ops [⟨[⟨none,.mov,[.c .snil]⟩],[(2,0)],.nop⟩]) (.seq (.seq (.ops [⟨[⟨none,.mov,[.t 0]⟩,⟨none,.eqv false .ptr,[.e 0,.c .pnil]⟩],[(6,0)],.nop⟩]) (.cond (.t 6) (.seq (.ops [⟨[⟨none,.mov,[.c .snil]⟩],[(2,0)],.nop⟩]) .ret) .skip)) (.seq (.ops [⟨[⟨none,.mov,[.c .snil]⟩],[(3,0)],.nop⟩]) (.seq (.seq (.ops [⟨[⟨none,.mov,[.t 0]⟩,⟨none,.nilc,[.e 0]⟩,⟨none,.fa 0,[.e 0]⟩,⟨none,.ld1,[.e 0]⟩],[],.s (some 11) none (.rngm) [.e 0]⟩]) (.block 0 (.loop dNmBody))) (dNmEnd srt))))),[.t 2]⟩

theorem names_loop {h : T AO} {it m c f srt N : Nat} {es : List (AV × AV × Nat)} {sh : KSh} (hmi : m < it) (hm : h.get m = some (.map es c sh)) (hlt : ∀ x ∈ es, x.2.2 < c) (hnd : (es.map (·.2.2)).Nodup) (hkey : ∀ e ∈ es, e.1 = sv (keyOf e)) (hN : es.length = N) (hN12 : N ≤ 12)
    (hk : ∀ (tm : T AV) (H : T AO) (L : List (Nat × Nat)) (t3 : AV), (∀ i, i < it → H.get i = h.get i) → Cur H it (it + 1 + 2 * N) L t3 → L.Perm (es.map keyOf) → tm.get 3 = some t3 → Ends ft big Q ⟨⟨f, tm, [.c (dNmEnd srt)], none, [], false⟩, [], H, it + 1 + 2 * N⟩) :
    ∀ (k : Nat) (seen : List Nat) (nx2 : Nat) (tm : T AV) (H : T AO) (L : List (Nat × Nat)) (t3 : AV), (leftOf seen es).length = k → nx2 + 2 * k = it + 1 + 2 * N → it < nx2 → (∀ i, i < it → H.get i = h.get i) → H.get it = some (.miter (some m) c seen c) → Cur H it nx2 L t3 →
      (L ++ (leftOf seen es).map keyOf).Perm (es.map keyOf) → tm.get 3 = some t3 → tm.get 11 = some (.ptr it 0) →
      Ends ft big Q ⟨⟨f, tm, [.c dNmBody, .lp dNmBody, .blk 0, .c (dNmEnd srt)], none, [], false⟩, [], H, nx2⟩ := by
  intro k
  induction k with
  | zero =>
    intro seen nx2 tm H L t3 hlen hnx hin hlow hit hcur hp h3 h11
    have hl : leftOf seen es = [] := List.eq_nil_of_length_eq_zero hlen
    have hno := nextOuts_map hit (by rw [hlow m hmi]; exact hm) hlt
    rw [hl] at hno hp
    rw [List.map_nil, List.append_nil] at hp
    have : nx2 = it + 1 + 2 * N := by omega
    subst this
    apply ends_of; simp [-Int.ofNat_eq_natCast, dNmBody, h11, hno, finish]
    apply ends_of; simp [-Int.ofNat_eq_natCast, finish]
    apply ends_of; simp [-Int.ofNat_eq_natCast]
    apply ends_of; simp [-Int.ofNat_eq_natCast]
    exact hk _ H L t3 hlow hcur hp (by simp [h3])
  | succ k ih =>
    intro seen nx2 tm H L t3 hlen hnx hin hlow hit hcur hp h3 h11
    have hno := nextOuts_map hit (by rw [hlow m hmi]; exact hm) hlt
    have hno2 : nextOuts (.ptr it 0) H = some ((leftOf seen es).map fun e => (.tup [.bool true, e.1, e.2.1], H.set it (.miter (some m) c (e.2.2 :: seen) c))) := by
      rw [hno]
      cases hl : leftOf seen es with
      | nil => rw [hl] at hlen; cases hlen
      | cons x r => rfl
    apply ends_of; simp [-Int.ofNat_eq_natCast, dNmBody, h11, hno2, finish]
    rintro s k0 v0 st hmem rfl
    have hpm := leftOf_cons hnd hmem
    obtain ⟨hmes, hns⟩ := mem_leftOf.1 hmem
    have hk0 : k0 = sv (keyOf (k0, v0, st)) := hkey _ hmes
    generalize hkx : keyOf (k0, v0, st) = x at hk0
    subst hk0
    have hmit : m ≠ it := by omega
    have hent : qEntm [.ptr it 0] (H.set it (.miter (some m) c (st :: seen) c)) = some (.tup [sv x, v0]) := by
      have := findStamp_of hnd hmes
      unfold qEntm
      simp only [T.get_set, if_neg (Ne.symm hmit), hlow m hmi, hm, if_true, Nat.beq_refl]
      simp only at this
      rw [this]
    have hLN : L.length ≤ 12 := by
      have := hp.length_eq
      simp only [List.length_append, List.length_map] at this
      omega
    obtain ⟨H3, e1, C3, hlow3⟩ := app_step hcur hin hLN x (.miter (some m) c (st :: seen) c)
    have hbsl : sBsl false 1 1 [.str 0 0] [0] [sv x] (H.set it (.miter (some m) c (st :: seen) c)) nx2 = some (.sl nx2 0 1 (some 1), (H.set it (.miter (some m) c (st :: seen) c)).set nx2 (.cells (treeOf [sv x]) 1 false false 1), Nat.add nx2 1) := rfl
    apply ends_of; simp [-Int.ofNat_eq_natCast, finish]
    apply ends_of; simp [-Int.ofNat_eq_natCast]
    apply ends_of; simp [-Int.ofNat_eq_natCast]
    apply ends_of; simp [-Int.ofNat_eq_natCast]
    apply ends_of; simp [-Int.ofNat_eq_natCast, h11, hent, finish]
    apply ends_of; simp [-Int.ofNat_eq_natCast, h3, hbsl, finish]
    apply ends_of; simp [-Int.ofNat_eq_natCast, e1, finish]
    apply ends_of; simp [-Int.ofNat_eq_natCast, finish]
    apply ends_of; simp [-Int.ofNat_eq_natCast]
    apply ends_of; simp [-Int.ofNat_eq_natCast]
    refine ih (st :: seen) (nx2 + 2) _ H3 (L ++ [x]) _ ?_ (by omega) (by omega) ?_ ?_ C3 ?_ (by simp) (by simp [h11])
    · have := hpm.length_eq
      simp only [List.length_cons] at this
      omega
    · intro i hi
      rw [hlow3 i (by omega), T.get_set_other _ _ (by omega)]
      exact hlow i hi
    · rw [hlow3 it (Nat.le_refl _), T.get_set_same]
    · have h2 := (hpm.map keyOf).symm
      simp only [List.map_cons, hkx] at h2
      rw [List.append_assoc, List.singleton_append]
      exact (h2.append_left L).trans hp

theorem names_ends {h : T AO} {d m c f nx srt len l32 l64 pdq ins less nan : Nat} {es : List (AV × AV × Nat)} {sh : KSh} {keys : List (Nat × Nat)} {dp : DF} {rest : DC} (hft : ft.get f = some (dNames srt)) (hs : ft.get srt = some (dSort len pdq)) (hsb : big.get srt = none) (hlen : ft.get len = some (dLen l32 l64)) (hlb : big.get len = none) (h64 : ft.get l64 = some dLen64) (h64b : big.get l64 = none)
    (hp : ft.get pdq = some dp) (hbody : dp.body = pdqBody ins rest) (hres : dp.res = []) (hpb : big.get pdq = none) (hins : ft.get ins = some (dIns less)) (hfb : big.get ins = none) (hl : ft.get less = some (dLess nan)) (hb : big.get less = none) (hn : ft.get nan = some dNan) (hnb : big.get nan = none)
    (hd : load1 h d 0 = some (.mp m)) (hm : h.get m = some (.map es c sh)) (hlt : ∀ x ∈ es, x.2.2 < c) (hnd : (es.map (·.2.2)).Nodup) (hk : strKeys es = some keys) (h1 : 1 ≤ keys.length) (h12 : keys.length ≤ 12) (hwf : ∀ x ∈ keys, Wf x) (hlow : ∀ i o, h.get i = some o → i < nx) :
    Ends ft big (fun v h' nx' => v = .sl (nx + 2 * keys.length) 0 keys.length none ∧ HLe (h.set (nx + 2 * keys.length) (.cells (treeOf ((sortS keys).map sv)) keys.length false true 1)) h' ∧ nx' = nx + 1 + 2 * keys.length) (entry f (dNames srt) [.ptr d 0] h nx) := by
  have hmi := hlow m _ hm
  obtain ⟨hk1, hk2⟩ := strKeys_some hk
  have hN : es.length = keys.length := by rw [hk1, List.length_map]
  unfold entry dNames
  rw [treeOf_one]
  apply ends_of; simp [-Int.ofNat_eq_natCast, finish]
  apply ends_of; simp [-Int.ofNat_eq_natCast]
  apply ends_of; simp [-Int.ofNat_eq_natCast, finish]
  apply ends_of; simp [-Int.ofNat_eq_natCast]
  apply ends_of; simp [-Int.ofNat_eq_natCast]
  apply ends_of; simp [-Int.ofNat_eq_natCast, finish]
  apply ends_of; simp [-Int.ofNat_eq_natCast]
  apply ends_of; simp [-Int.ofNat_eq_natCast, hd, sRngm, hm, newObj, finish]
  apply ends_of; simp [-Int.ofNat_eq_natCast]
  apply ends_of; simp [-Int.ofNat_eq_natCast]
  refine names_loop (h := h) (it := nx) (m := m) (c := c) (es := es) (sh := sh) (N := keys.length) hmi hm hlt hnd hk2 hN h12 ?_ es.length [] (nx + 1) _ _ [] .snil (by rw [leftOf_nil]) (by omega) (by omega) (fun i hi => by rw [T.get_set_other _ _ (by omega)]) (by simp) (.inl ⟨rfl, rfl⟩) (by rw [leftOf_nil]; exact .refl _) (by simp) (by simp)
  intro tm H L t3 hl0 C hp0 h3
  rcases C with ⟨rfl, _⟩ | ⟨id, l, rfl, hg, hc, hid, hid2, hpos⟩
  · have := hp0.length_eq
    simp only [List.length_nil, List.length_map] at this
    omega
  · have hLN : L.length = keys.length := by
      have := hp0.length_eq
      rw [List.length_map] at this
      omega
    have hR : Row H H id L.length true l L := ⟨hg, hc, rfl, fun _ _ => rfl⟩
    apply ends_of; simp [-Int.ofNat_eq_natCast, -callFn, h3, dNmEnd]
    refine sort_ok hs hsb hlen hlb h64 h64b hp hbody hres hpb hins hfb hl hb hn hnb (by omega) hR hpos ?_
    intro H' l' L' hp' hs' hR'
    refine ⟨_, by simp only [finish]; rfl, ?_⟩
    apply ends_of; simp [-Int.ofNat_eq_natCast, h3, finish]
    apply ends_of; simp [-Int.ofNat_eq_natCast]
    apply ends_of; simp [-Int.ofNat_eq_natCast, retTo, stepRet, hft, dNames]
    have hid3 : id = nx + 2 * keys.length := by omega
    have hperm : L'.Perm keys := by rw [hk1]; exact hp'.trans hp0
    have heq : L' = sortS keys := by
      refine srt_unique (hperm.trans (sortS_perm keys).symm) (fun x hx => hwf x (hperm.mem_iff.1 hx)) hs' (sortS_srt keys)
    subst hid3
    refine ⟨⟨rfl, hLN⟩, ?_⟩
    intro i x hx
    rw [T.get_set] at hx
    split at hx
    · rename_i e
      subst e
      cases hx
      refine ⟨_, hR'.get, ?_, hLN.symm, rfl, rfl, rfl⟩
      intro j v hv
      rw [treeOf_at] at hv
      rw [List.getElem?_map] at hv
      obtain ⟨u, hu, rfl⟩ := Option.map_eq_some_iff.1 hv
      rw [← heq] at hu
      exact hR'.cnt j u hu
    · rename_i e
      refine ⟨x, ?_, OLe.refl x⟩
      rw [hR'.oth i (Ne.symm e), hl0 i (hlow i x hx)]
      exact hx

theorem hNames_ok (hft : CodeOk P ft) (hmix : P.follows .mixedOrders = true) {f srt len l32 l64 pdq ins less nan : Nat} {dp : DF} {rest : DC} (hf : ft.get f = some (dNames srt)) (hs : ft.get srt = some (dSort len pdq)) (hlen : ft.get len = some (dLen l32 l64)) (h64 : ft.get l64 = some dLen64)
    (hp : ft.get pdq = some dp) (hbody : dp.body = pdqBody ins rest) (hres : dp.res = []) (hins : ft.get ins = some (dIns less)) (hl : ft.get less = some (dLess nan)) (hn : ft.get nan = some dNan) : HOk P ft f hNames := by
  intro B w0 ρ h nx w args us v h' nx' R ha hh
  unfold hNames at hh
  split at hh
  · rename_i d
    split at hh
    · rename_i m hd
      split at hh
      · rename_i es c sh hm
        split at hh
        · rename_i keys hk
          split at hh
          · rename_i h1
            split at hh
            · rename_i h12
              cases hh
              obtain ⟨g, hρ, _, _⟩ := R.obj _ _ hm
              obtain ⟨_, lr, _, _, hel, _, hnd, hlt, _⟩ := R.map hm hρ
              obtain ⟨hk1, hk2⟩ := strKeys_some hk
              have hwf : ∀ x ∈ keys, Wf x := by
                intro x hx
                rw [hk1] at hx
                obtain ⟨e, he, rfl⟩ := List.mem_map.1 hx
                obtain ⟨e', _, hr⟩ := hel.mem.2 e he
                have h0 := hr.1
                rw [hk2 e he] at h0
                exact h0.1
              have E := names_ends (ft := ft) (big := .nil) hf hs rfl hlen rfl h64 rfl hp hbody hres rfl hins rfl hl rfl hn rfl hd hm hlt hnd hk (le_of_ble h1) (le_of_ble h12) hwf (fun i o hi => by
                obtain ⟨g, h1, _⟩ := R.obj i o hi
                exact (R.dom i g h1).1)
              intro cs
              obtain ⟨e, w2, fr, ⟨u, ρ', v', h2, nx2, e1, e2, e3, e4, rfl, e6, rfl⟩, e7⟩ := calls_of_ends hft (big := .nil) bigOk_nil hmix hf R ha E cs
              refine ⟨e, w2, fr, ⟨u, ρ', e1, e2, e3, e4.sub e6 ?_⟩, e7⟩
              show nx + 1 + 2 * keys.length ≤ nx + 2 * keys.length + 1
              omega
            · cases hh
          · cases hh
        · cases hh
      · cases hh
    · cases hh
  · cases hh
end Go.Md
end
section
/- TEXTS OF A SEAT: heaps as lists, the table of functions, its check. No condition. -/
namespace Go.Md
variable {P : Program} {ft : FT} {B : Nat} {w0 w w' : World}

noncomputable def hUp (l : List (Nat × Option AO)) : T AO → T AO :=
  List.rec (motive := fun _ => T AO → T AO) (fun h => h) (fun x _ ih h => Option.rec (motive := fun _ => T AO) (ih (h.del x.1)) (fun o => T.setK h x.1 o ih) x.2) l
noncomputable def tOf (l : List (Nat × AV)) : T AV :=
  List.rec (motive := fun _ => T AV) .nil (fun x _ ih => ih.set x.1 x.2) l

inductive TAll {α : Type} (p : Nat → α → Prop) : (Nat → Nat) → T α → Prop
  | nil {k} : TAll p k .nil
  | none {k l r} : TAll p (fun n => k (2 * n + 1)) l → TAll p (fun n => k (2 * n + 2)) r → TAll p k (.node l Option.none r)
  | some {k l r v} : TAll p (fun n => k (2 * n + 1)) l → p (k 0) v → TAll p (fun n => k (2 * n + 2)) r → TAll p k (.node l (Option.some v) r)
theorem TAll.get {α : Type} {p : Nat → α → Prop} {k : Nat → Nat} {t : T α} (H : TAll p k t) : ∀ (n : Nat) (x : α), t.get n = Option.some x → p (k n) x := by
  induction H with
  | nil => intro n x h; cases h
  | none _ _ ih1 ih2 =>
    intro n x h
    rw [T.get_node] at h
    split at h
    · cases h
    · rename_i h0
      split at h
      · rename_i h1
        have e : 2 * (n / 2) + 1 = n := by omega
        have := ih1 _ _ h
        simp only [e] at this
        exact this
      · rename_i h1
        have e : 2 * (n / 2 - 1) + 2 = n := by omega
        have := ih2 _ _ h
        simp only [e] at this
        exact this
  | some _ hv _ ih1 ih2 =>
    intro n x h
    rw [T.get_node] at h
    split at h
    · rename_i h0
      cases h
      rw [h0]; exact hv
    · rename_i h0
      split at h
      · rename_i h1
        have e : 2 * (n / 2) + 1 = n := by omega
        have := ih1 _ _ h
        simp only [e] at this
        exact this
      · rename_i h1
        have e : 2 * (n / 2 - 1) + 2 = n := by omega
        have := ih2 _ _ h
        simp only [e] at this
        exact this
def FnOk (P : Program) (f : Nat) (df : DF) : Prop := ∃ fn, P.funcs[f]? = some fn ∧ regFn P fn df = some df
theorem fnOk {f : Nat} {fn : Func} {df : DF} (h1 : P.funcs[f]? = some fn) (h2 : regFn P fn df = some df) : FnOk P f df := ⟨fn, h1, h2⟩
theorem codeOk_of (H : TAll (FnOk P) (fun n => n) ft) : CodeOk P ft := fun f df h => H.get f df h

def BigAll (P : Program) (ft : FT) (big : Big) : Prop := ∀ B w0, BigOk P ft B w0 big
theorem bigAll_nil : BigAll P ft .nil := fun _ _ => bigOk_nil
theorem bigAll_set {big : Big} (hb : BigAll P ft big) (hft : CodeOk P ft) {f : Nat} {df : DF} (hdf : ft.get f = some df) {hd : Handler} (H : HOk P ft f hd) : BigAll P ft (big.set f hd) := fun B w0 => bigOk_set (hb B w0) hft hdf H
theorem memoOk_nil {f : Nat} : ∀ m ∈ ([] : List Memo), MemoOk P ft f m := fun _ h => by cases h
theorem memoOk_cons {f : Nat} {m : Memo} {l : List Memo} (h : MemoOk P ft f m) (hl : ∀ m ∈ l, MemoOk P ft f m) : ∀ m' ∈ m :: l, MemoOk P ft f m' := fun m' hm => by
  rcases List.mem_cons.1 hm with rfl | hm
  · exact h
  · exact hl m' hm
end Go.Md
end
