import Derived.Laws.IdiomCopy
import Derived.Deep.AppendSrc
import Derived.Test.YtgpdolhclinjdaaGreatDoorM6
set_option linter.unusedVariables false
set_option linter.unusedSimpArgs false
set_option linter.unusedSectionVars false
section
/- STORES: cells written in their block. No condition. -/
namespace Go.Md
open Go.RowKit (Below)
variable {P : Program} {ft : FT} {B : Nat} {w0 w w' : World} {ρ ρ' : Rho} {h h' : T AO} {nx nx' : Nat}

theorem setCells_heap (b : Nat) {el : TypeId} {fz : Nat × Nat} : ∀ (vs : List Value) (o : Nat) (w : World) (arr : Array Value), w.heap[b]? = some (.cells arr el fz) → o + vs.length ≤ arr.size →
    ∃ arr', (w.setCells b o vs).heap[b]? = some (.cells arr' el fz) ∧ arr'.size = arr.size ∧ ∀ i : Nat, arr'[i]? = if i < o then arr[i]? else if i < o + vs.length then vs[i - o]? else arr[i]?
  | [], o, w, arr, hb, _ => ⟨arr, hb, rfl, fun i => by simp; intro h1 h2; omega⟩
  | v :: r, o, w, arr, hb, hl => by
    simp only [List.length_cons] at hl
    have h1 : (w.setCell ⟨b, o, none⟩ v).heap[b]? = some (.cells (arr.setIfInBounds o v) el fz) := by
      simp [World.setCell, Array.getElem?_modify, hb]
    obtain ⟨arr', h2, h3, h4⟩ := setCells_heap b r (o + 1) _ _ h1 (by simp; omega)
    refine ⟨arr', h2, by simpa using h3, fun i => ?_⟩
    rw [h4 i]
    simp only [List.length_cons]
    by_cases hi : i < o
    · rw [if_pos (by omega), if_pos hi, Array.getElem?_setIfInBounds_ne (by omega)]
    · by_cases he : i = o
      · subst he
        rw [if_pos (by omega), if_neg (by omega), if_pos (by omega), Array.getElem?_setIfInBounds_self_of_lt (by omega)]
        simp
      · rw [if_neg (by omega), if_neg hi]
        by_cases h5 : i < o + (r.length + 1)
        · rw [if_pos (by omega), if_pos h5, show i - o = (i - (o + 1)) + 1 from by omega]
          simp
        · rw [if_neg (by omega), if_neg h5, Array.getElem?_setIfInBounds_ne (by omega)]

theorem setCell_other (w : World) (b o : Nat) (v : Value) (k : Nat) (hk : k ≠ b) : (w.setCell ⟨b, o, none⟩ v).heap[k]? = w.heap[k]? := by
  simp only [World.setCell, Array.getElem?_modify]
  rw [if_neg (fun e => hk e.symm)]
theorem setCells_other (b : Nat) : ∀ (vs : List Value) (o : Nat) (w : World) (k : Nat), k ≠ b → (w.setCells b o vs).heap[k]? = w.heap[k]?
  | [], _, _, _, _ => rfl
  | v :: r, o, w, k, hk => by rw [World.setCells, setCells_other b r _ _ k hk, setCell_other w b o v k hk]
theorem setCells_same (b : Nat) : ∀ (vs : List Value) (o : Nat) (w : World), (w.setCells b o vs).os = w.os ∧ (w.setCells b o vs).tape = w.tape ∧ (w.setCells b o vs).output = w.output ∧ (w.setCells b o vs).heap.size = w.heap.size ∧ (w.setCells b o vs).drawn = w.drawn
  | [], _, _ => ⟨rfl, rfl, rfl, rfl, rfl⟩
  | v :: r, o, w => by
    obtain ⟨a, b', c, d, e⟩ := setCells_same b r (o + 1) (w.setCell ⟨b, o, none⟩ v)
    exact ⟨a, b', c, by rw [World.setCells, d]; simp, e⟩
theorem Diff.setCells {b o : Nat} {vs : List Value} (hB : B ≤ b) (hl : b < w.heap.size) : Diff B b w (w.setCells b o vs) := by
  obtain ⟨a, b', c, d, e⟩ := setCells_same b vs o w
  exact ⟨a, b', c, by omega, hB, by omega, fun k hk _ => setCells_other b vs o w k hk⟩

theorem allOne_mem : ∀ {vs : List AV}, allOne vs = true → ∀ v ∈ vs, v.one = true
  | [], _, v, hm => by cases hm
  | x :: r, ho, v, hm => by
    unfold allOne at ho
    split at ho
    · rename_i hx
      rcases List.mem_cons.1 hm with rfl | hm
      · exact hx
      · exact allOne_mem ho v hm
    · cases ho
theorem VRelL.oneCells : ∀ {vs : List AV} {us : List Value}, VRelL ρ vs us → allOne vs = true → ∀ u ∈ us, u.oneCell' = true
  | [], _, hv, _, u, hm => by cases hv; cases hm
  | x :: r, _, ⟨y, s, e, h1, h2⟩, ho, u, hm => by
    subst e
    have ho' : x.one = true ∧ allOne r = true := by
      unfold allOne at ho
      split at ho
      · rename_i hx; exact ⟨hx, ho⟩
      · cases ho
    rcases List.mem_cons.1 hm with rfl | hm
    · exact h1.oneCell ho'.1
    · exact VRelL.oneCells h2 ho'.2 u hm

theorem packAV_spec : ∀ {vs : List AV} {x : Nat}, packAV vs = some x → x < 256 ^ vs.length ∧ ∀ (j : Nat) v, vs[j]? = some v → v = .int .u8 (.ofNat (byt x j))
  | [], x, hp => by cases hp; exact ⟨by simp, fun j v hj => by simp at hj⟩
  | y :: r, x, hp => by
    unfold packAV at hp
    split at hp
    · rename_i h0; cases h0
    · rename_i k a r' h0
      cases h0
      split at hp
      · rename_i hk
        split at hp
        · rename_i ha
          split at hp
          · rename_i n hn
            cases hp
            obtain ⟨h1, h2⟩ := packAV_spec hn
            have hk' := (kEq_iff _ _).1 hk
            subst hk'
            have ha' := lt_of_blt ha
            have hx : Nat.add a (Nat.mul n 256) = a + n * 256 := rfl
            rw [hx]
            refine ⟨by simp only [List.length_cons, Nat.pow_succ]; omega, fun j v hj => ?_⟩
            cases j with
            | zero =>
              simp only [List.length_cons, List.getElem?_cons_zero, Option.some.injEq] at hj
              subst hj
              rw [byt_zero]
              congr 2
              omega
            | succ j =>
              simp only [List.getElem?_cons_succ] at hj
              rw [h2 j v hj, byt_succ]
              congr 3
              omega
          · cases hp
        · cases hp
      · cases hp
    · cases hp

theorem notFrozen {b j : Nat} {arr : Array Value} {el : TypeId} {fz : Nat × Nat} (hb : w.heap[b]? = some (.cells arr el fz)) (hf : fzOk fz arr.size) (hj : j < arr.size) : w.frozen? ⟨b, j, none⟩ = false := by
  obtain ⟨lo, hi⟩ := fz
  simp only [World.frozen?, hb]
  rcases hf with h1 | h1
  · cases h1; simp
  · have h1' : arr.size ≤ lo := h1
    have : ¬ lo ≤ j := by omega
    simp [this]

theorem run_store_list {b o : Nat} {arr : Array Value} {el : TypeId} {fz : Nat × Nat} (hb : w.heap[b]? = some (.cells arr el fz)) (hf : fzOk fz arr.size) {us : List Value} (hl : o + us.length ≤ arr.size) (h1 : ∀ u ∈ us, u.oneCell' = true) :
    (Go.storeCells ⟨b, o, none⟩ us).run P w = .ok () (w.setCells b o us) := by
  have := run_storeCells_cells (P := P) b o us 0 w (fun j hj => by rw [cell_of hb]; simp; omega) (fun j hj => notFrozen hb hf (by omega)) h1
  simpa using this

theorem storeCells_ok (R : Rel P ft B w0 ρ h nx w) {id off : Nat} {vs : List AV} (hs : storeCells h id off vs = some h') {g : Gh} (hρ : ρ id = some g) {us : List Value} (hv : VRelL ρ vs us) :
    (Go.storeCells ⟨g.b, g.d + off, none⟩ us).run P w = .ok () (w.setCells g.b (g.d + off) us) ∧ Rel P ft B w0 ρ h' nx (w.setCells g.b (g.d + off) us) := by
  have hlen := hv.length
  unfold storeCells at hs
  split at hs
  · cases hs
  · rename_i hone
    have h1 := hv.oneCells hone
    split at hs
    · rename_i l m ro o e hg
      split at hs
      · cases hs
      · split at hs
        · rename_i hle
          cases hs
          have hle' : off + vs.length ≤ m := le_of_ble hle
          obtain ⟨g', hρ', ho, hB⟩ := R.obj _ _ hg
          rw [hρ] at hρ'; cases hρ'
          have hB' : B ≤ g.b := by rcases hB with hB | hB; · simp [isRo] at hB
                                   · exact hB
          obtain ⟨arr, el, fz, hb, hsz, hfz, hn, he, hc⟩ := ho
          have hbl : g.b < w.heap.size := (R.dom _ _ hρ).2
          obtain ⟨arr', hb', hsz', hget⟩ := setCells_heap g.b us (g.d + off) w arr hb (by omega)
          refine ⟨run_store_list hb hfz (by omega) h1, R.upd hg hρ rfl (Diff.setCells hB' hbl) ⟨arr', el, fz, hb', by rw [hsz', hsz], by rw [hsz']; exact hfz, hn, he, fun j v hj hjv => ?_⟩⟩
          rw [hget]
          rcases writeCells_get vs off l j v hjv with ⟨a1, a2⟩ | ⟨a1, a2⟩ | ⟨a1, a2⟩
          · obtain ⟨u, u1, u2⟩ := hc j v hj a2
            exact ⟨u, by rw [if_pos (by omega)]; exact u1, u2⟩
          · obtain ⟨u, u1, u2⟩ := hv.get _ _ a2
            have : j - off < vs.length := by
              rw [← hlen]
              exact (List.getElem?_eq_some_iff.1 u1).1
            exact ⟨u, by rw [if_neg (by omega), if_pos (by omega), show g.d + j - (g.d + off) = j - off from by omega]; exact u1, u2⟩
          · obtain ⟨u, u1, u2⟩ := hc j v hj a2
            exact ⟨u, by rw [if_neg (by omega), if_neg (by omega)]; exact u1, u2⟩
        · cases hs
    · rename_i bits m o hg
      split at hs
      · rename_i hle
        split at hs
        · rename_i x hx
          cases hs
          have hle' : off + vs.length ≤ m := le_of_ble hle
          obtain ⟨g', hρ', ho, hB⟩ := R.obj _ _ hg
          rw [hρ] at hρ'; cases hρ'
          have hB' : B ≤ g.b := by rcases hB with hB | hB; · simp [isRo] at hB
                                   · exact hB
          obtain ⟨arr, el, fz, hb, hsz, hfz, hn, he, hc⟩ := ho
          have hbl : g.b < w.heap.size := (R.dom _ _ hρ).2
          obtain ⟨arr', hb', hsz', hget⟩ := setCells_heap g.b us (g.d + off) w arr hb (by omega)
          obtain ⟨hx1, hx2⟩ := packAV_spec hx
          refine ⟨run_store_list hb hfz (by omega) h1, R.upd hg hρ rfl (Diff.setCells hB' hbl) ⟨arr', el, fz, hb', by rw [hsz', hsz], by rw [hsz']; exact hfz, hn, he, fun j hj => ?_⟩⟩
          rw [hget, byt_put hx1]
          by_cases c1 : j < off
          · rw [if_pos (by omega), if_pos c1]; exact hc j hj
          · rw [if_neg (by omega), if_neg c1]
            by_cases c2 : j < off + vs.length
            · rw [if_pos (by omega), if_pos c2, show g.d + j - (g.d + off) = j - off from by omega]
              have hj2 : j - off < vs.length := by omega
              have e1 : vs[j - off]? = some vs[j - off] := List.getElem?_eq_getElem hj2
              obtain ⟨u, u1, u2⟩ := hv.get _ _ e1
              rw [hx2 _ _ e1] at u2
              rw [u1, u2]
              rfl
            · rw [if_neg (by omega), if_neg c2]; exact hc j hj
        · cases hs
      · cases hs
    · cases hs
end Go.Md
end
section
/- APPEND. What is appended, of whatever source; room or none. No condition. -/
namespace Go.Md
open Go.RowKit (Below)
variable {P : Program} {ft : FT} {B : Nat} {w0 w w' : World} {ρ ρ' : Rho} {h h' : T AO} {nx nx' : Nat}

/-- an operation's end: a value, a new heap -/
def SOk (P : Program) (ft : FT) (B : Nat) (w0 : World) (ρ : Rho) (w : World) (s : Sem Value) (v : AV) (h' : T AO) (nx' : Nat) : Prop :=
  ∃ ρ' w' u, ρ.le ρ' ∧ s.run P w = .ok u w' ∧ VRel ρ' v u ∧ Rel P ft B w0 ρ' h' nx' w'

structure El (P : Program) (e : TypeId) (esz : Nat) (zs : List AV) where
  i : TypeInfo
  z : Value
  hi : P.info? e = some i
  hz : i.zero = some z
  size : i.size = esz
  bytes : i.bytes ≤ 1048576
  zsize : z.cells.size = esz
  pos : 0 < esz
  zrel : ∀ ρ, VRelL ρ zs z.cells.toList

theorem elT_spec {e : TypeId} {b : Bool} {n : Nat} {zs : List AV} (he : elT P e = some (b, n, zs)) : Nonempty (El P e n zs) ∧ (b = true → n = 1 ∧ zs = [.int .u8 (.ofNat 0)] ∧ isU8 P e = true) := by
  unfold elT at he
  split at he
  · rename_i i hi
    split at he
    · rename_i z hz
      split at he
      · rename_i hc
        simp only [Bool.and_eq_true, Bool.or_eq_true, decide_eq_true_eq, beq_iff_eq, Bool.not_eq_true'] at hc
        cases he
        obtain ⟨⟨⟨h1, h2⟩, h3⟩, h4⟩ := hc
        unfold zeroCells? at hz
        cases hzo : zeroOf P e with
        | none => simp [hzo] at hz
        | some a =>
          simp [hzo] at hz
          subst hz
          obtain ⟨zv, _, hr, i', hi', hzi⟩ := zeroOf_rel (P := P) (w := default) (ρ := fun _ => none) hzo
          rw [hi] at hi'; cases hi'
          have hlen := hr.cells.length
          have hzs : zv.cells.size = i.size := by rw [← h3, ← hlen]; simp
          refine ⟨⟨⟨i, zv, hi, hzi, rfl, h1, hzs, h2, fun ρ => (hr.mono (fun _ _ h => by cases h)).cells⟩⟩, fun hb => ?_⟩
          rcases h4 with h4 | h4
          · rw [h4] at hb; cases hb
          · refine ⟨h4.1, ?_, hb⟩
            have := h4.2
            unfold z0 at this
            split at this
            · assumption
            · cases this
      · cases he
    · cases he
  · cases he

/-- what is appended -/
structure AppR (P : Program) (w : World) (at_ : Array TypeId) (ty : TypeId) (e : TypeId) (size : Nat) (z : Value) (x : Value) (n : Nat) (news : List Value) : Prop where
  len : news.length = n * size
  nothing : n = 0 → ∀ base sLen sCap, sLen ≤ sCap → (Builtin.append_ at_ ty #[.slice base sLen sCap, x]).run P w = .ok (.slice base sLen sCap) w
  room : ∀ b off sLen sCap arr el fz, w.heap[b]? = some (.cells arr el fz) → fzOk fz arr.size → off + sLen * size + news.length ≤ arr.size → sLen + n ≤ sCap →
    (Builtin.append_ at_ ty #[.slice (some ⟨b, off, none⟩) sLen sCap, x]).run P w = .ok (.slice (some ⟨b, off, none⟩) (sLen + n) sCap) (w.setCells b (off + sLen * size) news)
  grow : ∀ base sLen sCap olds, (Builtin.firstCells size sLen (.slice base sLen sCap)).run P w.drew = .ok (olds : List Value).toArray w.drew → sCap < sLen + n → sLen + n ≤ 67108864 →
    (Builtin.append_ at_ ty #[.slice base sLen sCap, x]).run P w = .ok (.slice (some ⟨w.heap.size, 0, none⟩) (sLen + n) (grownCap w (sLen + n) sCap e))
      (w.drew.alloc (.cells ((olds ++ news).toArray ++ Builtin.zeroCells z.cells (grownCap w (sLen + n) sCap e - (sLen + n))) e))

theorem cellsThere {b o : Nat} {arr : Array Value} {el : TypeId} {fz : Nat × Nat} (hb : w.heap[b]? = some (.cells arr el fz)) {n : Nat} (hl : o + n ≤ arr.size) : ∀ j, j < n → (w.cell? ⟨b, o + j, none⟩).isSome = true := by
  intro j hj
  rw [cell_of hb]; simp; omega

theorem AppR.ofSrc {t tx ty e : TypeId} (ht : P.underlying t = some (.slice e)) {esz : Nat} {zs : List AV} (E : El P e esz zs) {x : Value} {n : Nat} {news : List Value} (hs : Src P E.i.size tx x n news w) : AppR P w #[t, tx] ty e E.i.size E.z x n news := by
  refine ⟨hs.newsLen, ?_, ?_, ?_⟩
  · rintro rfl base sLen sCap hle
    have hn : news = [] := by have := hs.newsLen; simpa using this
    subst hn
    rcases hs.kind with ⟨e', hk⟩ | hk <;> cases base <;> simp [Builtin.append_, run_und ht, run_und hk, run_size (szOf_some' E.hi), hs.len, hle, hs.cells, Go.storeCells]
  · intro b off sLen sCap arr el fz hb hf hl hr
    exact run_append_room_src w t tx ty e E.i ht E.hi b off sLen sCap x n news hs hr (cellsThere hb hl) fun j hj => notFrozen hb hf (by omega)
  · intro base sLen sCap olds hold hg hm
    refine run_append_grow_src w t tx ty e E.i E.z ht E.hi E.hz base sLen sCap olds hold x n news hs hg (by omega) (growslice_fits hg ?_)
    calc (sLen + n) * E.i.bytes ≤ 67108864 * 1048576 := Nat.mul_le_mul hm E.bytes
      _ ≤ 140737488355328 := by decide

theorem AppR.ofZeros {t tx ty e : TypeId} {ik : IntKind} (ht : P.underlying t = some (.slice e)) (hx : P.underlying tx = some (.int ik)) {esz : Nat} {zs : List AV} (E : El P e esz zs) (h1 : ∀ u ∈ E.z.cells.toList, u.oneCell' = true) (k : IntKind) (n : Nat) (hn : n ≤ 1048576) :
    AppR P w #[t, tx] ty e E.i.size E.z (.int k (Int.ofNat n)) n (Builtin.zeroCells E.z.cells n).toList := by
  have hzs : E.z.cells.size = E.i.size := by rw [E.zsize, E.size]
  have hpos : 0 < E.i.size := by rw [E.size]; exact E.pos
  have hw : IntKind.i64.wrap (n : Int) = (n : Int) := by rw [IntKind.wrap_i64]; omega
  have hneg : ¬ ((n : Int) < 0) := by omega
  have hbytes : ¬ (281474976710656 < (n : Int) * (E.i.bytes : Int)) := by
    have : n * E.i.bytes ≤ 1048576 * 1048576 := Nat.mul_le_mul hn E.bytes
    have h2 : ((n * E.i.bytes : Nat) : Int) = (n : Int) * (E.i.bytes : Int) := Int.natCast_mul n E.i.bytes
    omega
  have hzl : (Builtin.zeroCells E.z.cells n).toList.length = n * E.i.size := by simp [size_zeroCells, hzs]
  have hempty : n * E.i.size = 0 → Builtin.zeroCells E.z.cells n = #[] := by
    intro h0
    apply Array.eq_empty_of_size_eq_zero
    rw [size_zeroCells, hzs]; exact h0
  have hone : ∀ u ∈ (Builtin.zeroCells E.z.cells n).toList, u.oneCell' = true := by
    intro u hu
    simp only [Builtin.zeroCells, Array.toList_map, List.mem_map] at hu
    obtain ⟨i, _, rfl⟩ := hu
    have hp : 0 < E.z.cells.size := by rw [hzs]; exact hpos
    have hlt : i % E.z.cells.size < E.z.cells.size := Nat.mod_lt _ hp
    refine h1 _ ?_
    rw [getElem!_pos E.z.cells _ hlt]
    simp
  refine ⟨hzl, ?_, ?_, ?_⟩
  · rintro rfl base sLen sCap hle
    cases base <;> simp [Builtin.append_, run_und ht, run_und hx, run_size (szOf_some' E.hi), run_tinfo E.hi, asInt, asIntOf, IntKind.wrap_i64, hle, Go.storeCells]
  · intro b off sLen sCap arr el fz hb hf hl hr
    have hst := run_storeCells_cells (P := P) b (off + sLen * E.i.size) _ 0 w (by simpa using cellsThere hb hl) (fun j hj => notFrozen hb hf (by omega)) hone
    simp only [Nat.add_zero] at hst
    by_cases h0 : n * E.i.size = 0
    · have := hempty h0
      rw [this] at hst ⊢
      simp [Builtin.append_, run_und ht, run_und hx, run_size (szOf_some' E.hi), run_tinfo E.hi, asInt, asIntOf, hw, hneg, hbytes, hr, h0, add_addr, hst]
    · simp [Builtin.append_, run_und ht, run_und hx, run_size (szOf_some' E.hi), run_tinfo E.hi, asInt, asIntOf, hw, hneg, hbytes, hr, h0, add_addr, hst, zeroValue, E.hz]
  · intro base sLen sCap olds hold hg hm
    have hn' : ¬ (sLen + n ≤ sCap) := by omega
    have h63' : ¬ (9223372036854775807 < ((sLen : Int) + (n : Int))) := by omega
    have hfit := growslice_fits (bytes := E.i.bytes) hg (by
      calc (sLen + n) * E.i.bytes ≤ 67108864 * 1048576 := Nat.mul_le_mul hm E.bytes
        _ ≤ 140737488355328 := by decide)
    have h48' : ¬ (281474976710656 < Builtin.nextslicecap (sLen + n) sCap * E.i.bytes) := by omega
    by_cases h0 : n * E.i.size = 0
    · have := hempty h0
      rw [this]
      simp [Builtin.append_, run_und ht, run_und hx, run_size (szOf_some' E.hi), run_tinfo E.hi, asInt, asIntOf, hw, hneg, hbytes, hn', h63', h48', h0, Question.forced, hold, newRow, grownCap, zeroValue, E.hz]
    · simp [Builtin.append_, run_und ht, run_und hx, run_size (szOf_some' E.hi), run_tinfo E.hi, asInt, asIntOf, hw, hneg, hbytes, hn', h63', h48', h0, Question.forced, hold, newRow, grownCap, zeroValue, E.hz]
      congr 2
      apply Array.ext'
      simp [List.append_assoc]

/-- an object's words: what a row must hold to be it -/
def OFits (P : Program) (ft : FT) (ρ : Rho) (o : AO) (e : Nat) (us : List Value) : Prop :=
  ∀ ρ' w' g arr el fz, ρ.le ρ' → w'.heap[g.b]? = some (.cells arr el fz) → arr.size = g.sz → fzOk fz arr.size → g.d + us.length ≤ g.sz → g.e = e → (∀ j : Nat, j < us.length → arr[g.d + j]? = us[j]?) → ORel P ft ρ' w' g o
theorem OFits.cells {vs : List AV} {us : List Value} (hv : VRelL ρ vs us) (e : Nat) (ro opn : Bool) : OFits P ft ρ (.cells (treeOf vs) vs.length ro opn e) e us := by
  intro ρ' w' g arr el fz hle hb hs hf hd he hc
  have hl := hv.length
  refine ⟨arr, el, fz, hb, hs, hf, by omega, he, fun j v hj hg => ?_⟩
  obtain ⟨u, h1, h2⟩ := hv.get j v (treeOf_get vs j v hg)
  exact ⟨u, by rw [hc j (by omega)]; exact h1, h2.mono hle⟩
def byteVals (bits n : Nat) : List Value := (List.range n).map fun j => .int .u8 (byt bits j)
theorem byteVals_length (bits n : Nat) : (byteVals bits n).length = n := by simp [byteVals]
theorem byteVals_get (bits n j : Nat) (h : j < n) : (byteVals bits n)[j]? = some (.int .u8 (byt bits j)) := by simp [byteVals, h]
theorem OFits.bytes (bits n : Nat) (opn : Bool) : OFits P ft ρ (.bytes bits n opn) 1 (byteVals bits n) := by
  intro ρ' w' g arr el fz hle hb hs hf hd he hc
  rw [byteVals_length] at hd hc
  exact ⟨arr, el, fz, hb, hs, hf, hd, he, fun j hj => by rw [hc j hj, byteVals_get bits n j hj]⟩
theorem byteVals_cat {a n b m : Nat} (ha : a < 256 ^ n) : byteVals (catB a n b) (n + m) = byteVals a n ++ byteVals b m := by
  apply List.ext_getElem?
  intro i
  by_cases h1 : i < n
  · rw [byteVals_get _ _ _ (by omega), List.getElem?_append_left (by rw [byteVals_length]; exact h1), byteVals_get _ _ _ h1, byt_cat_lo n b i h1]
  · rw [List.getElem?_append_right (by rw [byteVals_length]; omega), byteVals_length]
    by_cases h2 : i < n + m
    · rw [byteVals_get _ _ _ h2, byteVals_get _ _ _ (by omega), byt_cat_hi n b i ha (by omega)]
    · rw [List.getElem?_eq_none (by rw [byteVals_length]; omega), List.getElem?_eq_none (by rw [byteVals_length]; omega)]

theorem setCells_get_olds {b o : Nat} {arr : Array Value} {olds news : List Value} (hold : ∀ j : Nat, j < olds.length → arr[o + j]? = olds[j]?) {arr' : Array Value}
    (hget : ∀ i : Nat, arr'[i]? = if i < o + olds.length then arr[i]? else if i < o + olds.length + news.length then news[i - (o + olds.length)]? else arr[i]?) : ∀ j : Nat, j < (olds ++ news).length → arr'[o + j]? = (olds ++ news)[j]? := by
  intro j hj
  simp only [List.length_append] at hj
  rw [hget]
  by_cases h1 : j < olds.length
  · rw [if_pos (by omega), List.getElem?_append_left h1, hold j h1]
  · rw [if_neg (by omega), if_pos (by omega), List.getElem?_append_right (by omega), show o + j - (o + olds.length) = j - olds.length from by omega]

/-- no room: a new row -/
theorem app_grow {at_ : Array TypeId} {ty e : TypeId} {size : Nat} {z x : Value} {n : Nat} {news : List Value} (A : AppR P w at_ ty e size z x n news) (hz : z.cells.size = size) (R : Rel P ft B w0 ρ h nx w)
    {base : Option Addr} {sLen sCap : Nat} {olds : List Value} (hold : (Builtin.firstCells size sLen (.slice base sLen sCap)).run P w.drew = .ok olds.toArray w.drew) (hol : olds.length = sLen * size) (hg : sCap < sLen + n) (hm : sLen + n ≤ 67108864)
    {o : AO} (ho : OFits P ft ρ o size (olds ++ news)) : SOk P ft B w0 ρ w (Builtin.append_ at_ ty #[.slice base sLen sCap, x]) (.sl nx 0 (sLen + n) none) (h.set nx o) (nx + 1) := by
  have hr := A.grow base sLen sCap olds hold hg hm
  have hcap := grownCap_ge w (sLen + n) sCap e
  have hnl := A.len
  refine ⟨ρ.upd nx ⟨w.heap.size, 0, size, grownCap w (sLen + n) sCap e * size⟩, _, _, Rho.le_upd fun id g hh => (R.dom id g hh).1, hr, ?_, ?_⟩
  · refine ⟨_, _, Rho.upd_self _ _, rfl, hcap, ?_⟩
    show 0 + 0 + _ * size ≤ _ * size
    omega
  · refine R.drew.new (obj := .cells _ e) (e := size) (sz := grownCap w (sLen + n) sCap e * size) (ho _ _ _ _ _ (0, 0) (Rho.le_upd fun id g hh => (R.dom id g hh).1) (by exact Array.getElem?_push_size) ?_ (.inl rfl) ?_ rfl ?_)
    · simp only [Array.size_append, List.size_toArray, List.length_append, size_zeroCells, hol, hnl, hz]
      rw [← Nat.add_mul, ← Nat.add_mul, Nat.add_sub_cancel' hcap]
    · show 0 + _ ≤ _
      rw [List.length_append, hol, hnl, ← Nat.add_mul, Nat.zero_add]
      exact Nat.mul_le_mul_right _ hcap
    · intro j hj
      show ((olds ++ news).toArray ++ _)[0 + j]? = _
      rw [Nat.zero_add, Array.getElem?_append_left (by simpa using hj)]
      simp
end Go.Md
end
section
/- APPEND, the whole of it. No condition. -/
namespace Go.Md
open Go.RowKit (Below)
variable {P : Program} {ft : FT} {B : Nat} {w0 w w' : World} {ρ ρ' : Rho} {h h' : T AO} {nx nx' : Nat}

theorem firstCells_at {w : World} {size len c b o : Nat} {olds : List Value} (hol : olds.length = len * size) (hc : ∀ j u, olds[j]? = some u → w.cell? ⟨b, o + j, none⟩ = some u) :
    (Builtin.firstCells size len (.slice (some ⟨b, o, none⟩) len c)).run P w = .ok olds.toArray w :=
  run_firstCells_some w size len ⟨b, o, none⟩ len c olds hol fun j u hu => by rw [add_addr]; exact hc j u hu

/-- the room is not known -/
theorem app_open {at_ : Array TypeId} {ty e : TypeId} {size : Nat} {z x : Value} {n : Nat} {news : List Value} (A : AppR P w at_ ty e size z x n news) (hz : z.cells.size = size) (R : Rel P ft B w0 ρ h nx w)
    {id off len : Nat} {oOld : AO} {g : Gh} (hg : h.get id = some oOld) (hρ : ρ id = some g) (hB : B ≤ g.b) {arr : Array Value} {el : TypeId} {fz : Nat × Nat} (hb : w.heap[g.b]? = some (.cells arr el fz)) (hsz : arr.size = g.sz) (hfz : fzOk fz arr.size)
    (he : g.e = size) {olds : List Value} (hol : olds.length = len * size) (hold : ∀ j u, olds[j]? = some u → w.cell? ⟨g.b, g.d + off + j, none⟩ = some u) {c : Nat} (hlc : len ≤ c) (hroom : g.d + off + c * g.e ≤ g.sz) (hm : len + n ≤ 67108864)
    {o : AO} (ho : OFits P ft ρ o size (olds ++ news)) : SOk P ft B w0 ρ w (Builtin.append_ at_ ty #[.slice (some ⟨g.b, g.d + off, none⟩) len c, x]) (.sl nx 0 (len + n) none) ((h.del id).set nx o) (nx + 1) := by
  by_cases hr : len + n ≤ c
  · have hnl := A.len
    have hfit : g.d + off + len * size + news.length ≤ arr.size := by
      rw [hnl, hsz, Nat.add_assoc, ← Nat.add_mul]
      have := Nat.mul_le_mul_right size hr
      rw [he] at hroom
      omega
    have hrun := A.room g.b (g.d + off) len c arr el fz hb hfz hfit hr
    obtain ⟨arr', hb', hsz', hget⟩ := setCells_heap g.b news (g.d + off + len * size) w arr hb hfit
    have hbl : g.b < w.heap.size := (R.dom _ _ hρ).2
    refine ⟨ρ.upd nx ⟨g.b, g.d + off, g.e, g.sz⟩, _, _, Rho.le_upd fun id g hh => (R.dom id g hh).1, hrun, ⟨_, _, Rho.upd_self _ _, rfl, hr, ?_⟩, ?_⟩
    · show g.d + off + 0 + c * g.e ≤ g.sz
      omega
    · refine (R.del id).put (g := ⟨g.b, g.d + off, g.e, g.sz⟩) (Diff.setCells hB hbl) (fun i oi gi hi hρi e1 => ?_) (ho _ _ _ arr' el fz (Rho.le_upd fun id g hh => (R.dom id g hh).1) hb' (by rw [hsz', hsz]) (by rw [hsz']; exact hfz) ?_ he ?_)
      · rw [T.get_del] at hi
        split at hi
        · cases hi
        · rename_i hne
          exact hne (R.inj i id oi oOld gi g hi hg hρi hρ e1).symm
      · show g.d + off + (olds ++ news).length ≤ g.sz
        rw [List.length_append, hol]; omega
      · refine setCells_get_olds (b := g.b) (arr := arr) (fun j hj => ?_) (by rw [hol]; exact hget)
        have e1 : olds[j]? = some olds[j] := List.getElem?_eq_getElem hj
        have := hold j _ e1
        rw [cell_of hb] at this
        rw [this, e1]
  · exact app_grow A hz (R.del id) (firstCells_at hol (by simpa using hold)) hol (by omega) hm ho

theorem byteVals_unpack (bits n : Nat) : VRelL ρ (unpackAV bits n) (byteVals bits n) :=
  VRelL.of_get (by rw [unpackAV_len, byteVals_length]) fun i v u hv hu => by
    obtain ⟨h1, rfl⟩ := unpackAV_get n bits i v hv
    rw [byteVals_get bits n i h1] at hu
    cases hu
    rfl
theorem allOne_unpack : ∀ (n bits : Nat), allOne (unpackAV bits n) = true
  | 0, _ => rfl
  | n+1, bits => by simp only [unpackAV, allOne, AV.one]; exact allOne_unpack n _
theorem packAV_unpack : ∀ (n bits : Nat), bits < 256 ^ n → packAV (unpackAV bits n) = some bits
  | 0, bits, h => by simp at h; subst h; rfl
  | n+1, bits, h => by
    have hm : Nat.mod bits 256 < 256 := Nat.mod_lt _ (by decide)
    have hd : Nat.div bits 256 < 256 ^ n := by
      show bits / 256 < 256 ^ n
      rw [Nat.div_lt_iff_lt_mul (by decide)]; rw [Nat.pow_succ] at h; exact h
    have hk : kEq IntKind.u8 IntKind.u8 = true := (kEq_iff _ _).2 rfl
    simp only [unpackAV, packAV, hk, blt_t hm, packAV_unpack n _ hd]
    congr 1
    show bits % 256 + bits / 256 * 256 = bits
    omega

theorem Rel.at (R : Rel P ft B w0 ρ h nx w) {id : Nat} {o : AO} (hg : h.get id = some o) {g : Gh} (hρ : ρ id = some g) : ORel P ft ρ w g o ∧ (isRo o = true ∨ B ≤ g.b) := by
  obtain ⟨g', h1, h2, h3⟩ := R.obj _ _ hg
  rw [hρ] at h1; cases h1
  exact ⟨h2, h3⟩

theorem srcB_ok (R : Rel P ft B w0 ρ h nx w) {id off len : Nat} {cap : Option Nat} {bits n : Nat} (hs : srcBytes h (.sl id off len cap) = some (bits, n)) {g : Gh} (hρ : ρ id = some g) :
    n = len ∧ bits < 256 ^ len ∧ (∃ bits0 m o, h.get id = some (.bytes bits0 m o)) ∧ (∀ j u, (byteVals bits len)[j]? = some u → w.cell? ⟨g.b, g.d + off + j, none⟩ = some u) := by
  simp only [srcBytes] at hs
  split at hs
  · rename_i bits0 m o hg
    split at hs
    · rename_i hle
      cases hs
      have hle' : off + len ≤ m := le_of_ble hle
      obtain ⟨⟨arr, el, fz, hb, _, _, _, _, hc⟩, _⟩ := R.at hg hρ
      refine ⟨rfl, subB_lt _ _ _, ⟨bits0, m, o, hg⟩, fun j u hu => ?_⟩
      have hj : j < len := by
        have := (List.getElem?_eq_some_iff.1 hu).1
        rwa [byteVals_length] at this
      rw [byteVals_get _ _ _ hj, byt_subB _ _ _ _ hj] at hu
      cases hu
      rw [cell_of hb, show g.d + off + j = g.d + (off + j) from by omega, hc _ (by omega)]
    · cases hs
  · cases hs

theorem appBytes_ok {at_ : Array TypeId} {ty e : TypeId} {z x : Value} {n bits : Nat} (A : AppR P w at_ ty e 1 z x n (byteVals bits n)) (hz : z.cells.size = 1) (hbits : bits < 256 ^ n) (R : Rel P ft B w0 ρ h nx w) {s : AV} {u : Value} (hs : VRel ρ s u)
    {v : AV} (hq : appBytes h nx s bits n = some (v, h', nx')) : SOk P ft B w0 ρ w (Builtin.append_ at_ ty #[u, x]) v h' nx' := by
  have grow : ∀ {old : Option Nat} {hh : T AO} {b m : Nat}, growBytes hh nx old b m = some (v, h', nx') → m ≤ 67108864 ∧ v = .sl nx 0 m none ∧ h' = ((match old with | some id => hh.del id | none => hh) : T AO).set nx (.bytes b m true) ∧ nx' = nx + 1 := by
    intro old hh b m hq
    unfold growBytes at hq
    split at hq
    · rename_i hle
      cases hq
      exact ⟨le_of_ble hle, rfl, rfl, rfl⟩
    · cases hq
  unfold appBytes at hq
  split at hq
  · cases hs
    split at hq
    · rename_i hn
      cases hq
      exact ⟨ρ, w, _, Rho.le.refl ρ, A.nothing (eq_of_beq' hn) none 0 0 (Nat.le_refl _), rfl, R⟩
    · rename_i hn
      obtain ⟨h1, rfl, rfl, rfl⟩ := grow hq
      have hn' := ne_of_beq' hn
      have := app_grow A hz R (base := none) (sLen := 0) (sCap := 0) (olds := []) (run_firstCells_none w.drew 1 0 0 0) (by simp) (by omega) (by omega) (o := .bytes bits n true) (by simpa using OFits.bytes bits n true)
      simpa using this
  · rename_i id off len cap
    obtain ⟨g, c, hρ, rfl, hlc, hcap⟩ := hs
    split at hq
    · rename_i hn
      cases hq
      exact ⟨ρ, w, _, Rho.le.refl ρ, A.nothing (eq_of_beq' hn) _ len c hlc, ⟨g, c, hρ, rfl, hlc, hcap⟩, R⟩
    · rename_i hn
      split at hq
      · rename_i c0
        have hcc : c = c0 := hcap
        subst hcc
        split at hq
        · rename_i hle
          have hle' : len + n ≤ c := le_of_ble hle
          split at hq
          · rename_i bits0 m o hg
            split at hq
            · rename_i hle2
              cases hq
              have hle2' : off + len + n ≤ m := le_of_ble hle2
              obtain ⟨⟨arr, el, fz, hb, hsz, hfz, hd, he, hc⟩, _⟩ := R.at hg hρ
              have hst : storeCells h id (Nat.add off len) (unpackAV bits n) = some (h.set id (.bytes (putB bits0 (Nat.add off len) n bits) m o)) := by
                simp only [storeCells, allOne_unpack, hg, unpackAV_len, packAV_unpack n bits hbits]
                rw [ble_t (by exact hle2')]
              obtain ⟨_, R'⟩ := storeCells_ok R hst hρ (byteVals_unpack bits n)
              have hrun := A.room g.b (g.d + off) len c arr el fz hb hfz (by rw [byteVals_length]; omega) hle'
              have e1 : g.d + off + len * 1 = g.d + Nat.add off len := by show _ = g.d + (off + len); omega
              rw [e1] at hrun
              exact ⟨ρ, _, _, Rho.le.refl ρ, hrun, ⟨g, c, hρ, rfl, hle', rfl⟩, R'⟩
            · cases hq
          · cases hq
        · rename_i hle
          have hgt : c < len + n := Nat.lt_of_not_le fun hh => by rw [ble_t (show Nat.add len n ≤ c from hh)] at hle; cases hle
          split at hq
          · rename_i o k hsb
            obtain ⟨rfl, ho, _, hcells⟩ := srcB_ok R hsb hρ
            obtain ⟨h1, rfl, rfl, rfl⟩ := grow hq
            have := app_grow A hz R (firstCells_at (b := g.b) (o := g.d + off) (c := c) (len := k) (olds := byteVals o k) (by simp [byteVals_length]) (by simpa using hcells)) (by simp [byteVals_length]) hgt h1 (o := .bytes (catB o k bits) (k + n) true)
              (by rw [← byteVals_cat ho]; exact OFits.bytes _ _ _)
            exact this
          · cases hq
      · split at hq
        · rename_i o k hsb
          obtain ⟨rfl, ho, ⟨bits0, m, oo, hg⟩, hcells⟩ := srcB_ok R hsb hρ
          obtain ⟨h1, rfl, rfl, rfl⟩ := grow hq
          obtain ⟨⟨arr, el, fz, hb, hsz, hfz, hd, he, hc⟩, hB⟩ := R.at hg hρ
          have hB' : B ≤ g.b := by
            rcases hB with hB | hB
            · cases hB
            · exact hB
          exact app_open A hz R hg hρ hB' hb hsz hfz he (by simp [byteVals_length]) hcells hlc hcap h1 (o := .bytes (catB o k bits) (k + n) true) (by rw [← byteVals_cat ho]; exact OFits.bytes _ _ _)
        · cases hq
  · cases hq

theorem srcC_ok (R : Rel P ft B w0 ρ h nx w) {id off len esz : Nat} {cap : Option Nat} {vs : List AV} {n : Nat} (hs : srcCells h esz (.sl id off len cap) = some (vs, n)) {g : Gh} (hρ : ρ id = some g) :
    n = len ∧ ∃ us, VRelL ρ vs us ∧ us.length = len * esz ∧ (∀ j u, us[j]? = some u → w.cell? ⟨g.b, g.d + off + j, none⟩ = some u) := by
  simp only [srcCells] at hs
  split at hs
  · rename_i l m ro o e hg
    split at hs
    · rename_i hle
      split at hs
      · rename_i vs' hr
        cases hs
        refine ⟨rfl, ?_⟩
        have : loadCells h id off (Nat.mul len esz) = some vs := by simp only [loadCells, hg, hle, hr]
        obtain ⟨us, h1, h2, h3⟩ := loadCells_ok R this hρ
        exact ⟨us, h1, h2, h3⟩
      · cases hs
    · cases hs
  · cases hs

theorem appCells_ok {at_ : Array TypeId} {ty e : TypeId} {esz : Nat} {z x : Value} {n : Nat} {vs : List AV} {news : List Value} (A : AppR P w at_ ty e esz z x n news) (hz : z.cells.size = esz) (hvs : VRelL ρ vs news) (R : Rel P ft B w0 ρ h nx w) {s : AV} {u : Value} (hs : VRel ρ s u)
    {v : AV} (hq : appCells h nx esz s vs n = some (v, h', nx')) : SOk P ft B w0 ρ w (Builtin.append_ at_ ty #[u, x]) v h' nx' := by
  have grow : ∀ {old : Option Nat} {hh : T AO} {b : List AV} {m : Nat}, growCells hh nx esz old b m = some (v, h', nx') → m ≤ 67108864 ∧ v = .sl nx 0 m none ∧ h' = ((match old with | some id => hh.del id | none => hh) : T AO).set nx (.cells (treeOf b) b.length false true esz) ∧ nx' = nx + 1 := by
    intro old hh b m hq
    unfold growCells at hq
    split at hq
    · rename_i hle
      cases hq
      exact ⟨le_of_ble hle, rfl, rfl, rfl⟩
    · cases hq
  unfold appCells at hq
  split at hq
  · cases hs
    split at hq
    · rename_i hn
      cases hq
      exact ⟨ρ, w, _, Rho.le.refl ρ, A.nothing (eq_of_beq' hn) none 0 0 (Nat.le_refl _), rfl, R⟩
    · rename_i hn
      split at hq
      · obtain ⟨h1, rfl, rfl, rfl⟩ := grow hq
        have hn' := ne_of_beq' hn
        have := app_grow A hz R (base := none) (sLen := 0) (sCap := 0) (olds := []) (run_firstCells_none w.drew esz 0 0 0) (by simp) (by omega) (by omega) (o := .cells (treeOf vs) vs.length false true esz) (by simpa using OFits.cells hvs esz false true)
        simpa using this
      · cases hq
  · rename_i id off len cap
    obtain ⟨g, c, hρ, rfl, hlc, hcap⟩ := hs
    split at hq
    · rename_i hn
      cases hq
      exact ⟨ρ, w, _, Rho.le.refl ρ, A.nothing (eq_of_beq' hn) _ len c hlc, ⟨g, c, hρ, rfl, hlc, hcap⟩, R⟩
    · rename_i hn
      split at hq
      · cases hq
      · split at hq
        · rename_i c0
          have hcc : c = c0 := hcap
          subst hcc
          split at hq
          · rename_i hle
            have hle' : len + n ≤ c := le_of_ble hle
            split at hq
            · rename_i h2 hst
              cases hq
              obtain ⟨_, R'⟩ := storeCells_ok R hst hρ hvs
              have hst' := hst
              unfold storeCells at hst'
              have hrow : ∃ arr el fz, w.heap[g.b]? = some (.cells arr el fz) ∧ fzOk fz arr.size ∧ g.d + (off + len * esz) + vs.length ≤ arr.size := by
                split at hst'
                · cases hst'
                · split at hst'
                  · rename_i l m ro o e hg
                    split at hst'
                    · cases hst'
                    · split at hst'
                      · rename_i hle3
                        obtain ⟨⟨arr, el, fz, hb, hsz, hfz, hd, he, hc⟩, _⟩ := R.at hg hρ
                        have h4 : off + len * esz + vs.length ≤ m := le_of_ble hle3
                        exact ⟨arr, el, fz, hb, hfz, by omega⟩
                      · cases hst'
                  · rename_i bits m o hg
                    split at hst'
                    · rename_i hle3
                      obtain ⟨⟨arr, el, fz, hb, hsz, hfz, hd, he, hc⟩, _⟩ := R.at hg hρ
                      have h4 : off + len * esz + vs.length ≤ m := le_of_ble hle3
                      exact ⟨arr, el, fz, hb, hfz, by omega⟩
                    · cases hst'
                  · cases hst'
              obtain ⟨arr, el, fz, hb, hfz, hfit⟩ := hrow
              have hrun := A.room g.b (g.d + off) len c arr el fz hb hfz (by rw [hvs.length]; omega) hle'
              have e1 : g.d + off + len * esz = g.d + Nat.add off (Nat.mul len esz) := by show _ = g.d + (off + len * esz); omega
              rw [e1] at hrun
              exact ⟨ρ, _, _, Rho.le.refl ρ, hrun, ⟨g, c, hρ, rfl, hle', rfl⟩, R'⟩
            · cases hq
          · rename_i hle
            have hgt : c < len + n := Nat.lt_of_not_le fun hh => by rw [ble_t (show Nat.add len n ≤ c from hh)] at hle; cases hle
            split at hq
            · rename_i o k hsb
              obtain ⟨rfl, us, hus, hul, hcells⟩ := srcC_ok R hsb hρ
              obtain ⟨h1, rfl, rfl, rfl⟩ := grow hq
              exact app_grow A hz R (firstCells_at (b := g.b) (o := g.d + off) (c := c) (len := k) hul (by simpa using hcells)) hul hgt h1 (o := .cells (treeOf (o ++ vs)) (o ++ vs).length false true esz) (OFits.cells (hus.append hvs) esz false true)
            · cases hq
        · split at hq
          · rename_i ro _ e0 hg
            split at hq
            · cases hq
            · split at hq
              · rename_i he0
                have he0' := eq_of_beq' he0
                subst he0'
                split at hq
                · rename_i o k hsb
                  obtain ⟨rfl, us, hus, hul, hcells⟩ := srcC_ok R hsb hρ
                  obtain ⟨h1, rfl, rfl, rfl⟩ := grow hq
                  obtain ⟨⟨arr, el, fz, hb, hsz, hfz, hd, he, hc⟩, hB⟩ := R.at hg hρ
                  have hB' : B ≤ g.b := by
                    rcases hB with hB | hB
                    · cases hB
                    · exact hB
                  exact app_open A hz R hg hρ hB' hb hsz hfz he hul hcells hlc hcap h1 (o := .cells (treeOf (o ++ vs)) (o ++ vs).length false true e0) (OFits.cells (hus.append hvs) e0 false true)
                · cases hq
              · cases hq
          · cases hq
  · cases hq
end Go.Md
end
