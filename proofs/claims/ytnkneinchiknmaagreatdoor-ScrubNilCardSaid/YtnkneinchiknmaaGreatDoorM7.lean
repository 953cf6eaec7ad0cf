import Derived.Laws.IdiomCopy
import Derived.Deep.AppendSrc
import Derived.Test.YtnkneinchiknmaaGreatDoorM6
set_option linter.unusedVariables false
set_option linter.unusedSimpArgs false
set_option linter.unusedSectionVars false
section
/- HOW THE RELATION IS KEPT where a block is written, made, moved. No condition. -/
namespace Go.Md
open Go.RowKit (Below)
variable {P : Program} {ft : FT} {B : Nat} {w0 w w' : World} {ρ ρ' : Rho} {h : T AO} {nx : Nat}

theorem ERelL.mono (hr : ρ.le ρ') : ∀ {es : List (AV × AV × Nat)} {l : List MapEntry}, ERelL ρ es l → ERelL ρ' es l
  | [], _, h => h
  | x :: _, _, ⟨e, s, he, h1, h2⟩ => ⟨e, s, he, ⟨VRel.mono hr _ _ h1.1, VRel.mono hr _ _ h1.2.1, h1.2.2⟩, ERelL.mono hr h2⟩

theorem ORel.mono (hr : ρ.le ρ') {g : Gh} (hb : w'.heap[g.b]? = w.heap[g.b]?) : ∀ {o : AO}, ORel P ft ρ w g o → ORel P ft ρ' w' g o
  | .cells .., ⟨arr, el, fz, h1, h2, h3, h4, h5, h6⟩ => ⟨arr, el, fz, by rw [hb]; exact h1, h2, h3, h4, h5, fun j v hj hv => let ⟨u, a, b⟩ := h6 j v hj hv; ⟨u, a, VRel.mono hr _ _ b⟩⟩
  | .bytes .., ⟨arr, el, fz, h1, h2⟩ => ⟨arr, el, fz, by rw [hb]; exact h1, h2⟩
  | .map .., ⟨ents, l, h1, h2, h3, h4⟩ => ⟨ents, l, by rw [hb]; exact h1, h2, ERelL.mono hr h3, h4⟩
  | .loop .., ⟨r, h1, h2, h3, h4, h5, h6, h7, h8, h9, ⟨gd, h10, h11⟩, h12⟩ => ⟨r, by rw [hb]; exact h1, h2, h3, h4, h5, TmRel.mono hr h6, h7, h8, h9, ⟨gd, hr _ _ h10, h11⟩, h12⟩
  | .dfr, h => by show w'.heap[g.b]? = _; rw [hb]; exact h
  | .miter none .., ⟨h0, m', h1, h2⟩ => ⟨h0, m', by rw [hb]; exact h1, h2⟩
  | .miter (some _) .., ⟨h0, m', h1, gm, h2, h3⟩ => ⟨h0, m', by rw [hb]; exact h1, gm, hr _ _ h2, h3⟩

/-- the two worlds differ at one block, from B on, at most; and in the count of draws -/
structure Diff (B b : Nat) (w w' : World) : Prop where
  os : w'.os = w.os
  tape : w'.tape = w.tape
  output : w'.output = w.output
  size : w.heap.size ≤ w'.heap.size
  low : B ≤ b
  lt : b < w'.heap.size
  other : ∀ k, k ≠ b → k < w.heap.size → w'.heap[k]? = w.heap[k]?

theorem Diff.below {b : Nat} (d : Diff B b w w') (hB : B ≤ w.heap.size) : Below B w w' :=
  ⟨d.os, d.tape, d.output, d.size, fun k hk => d.other k (by have := d.low; omega) (by omega)⟩

theorem Rel.drew (R : Rel P ft B w0 ρ h nx w) : Rel P ft B w0 ρ h nx w.drew :=
  ⟨fun id o hg => let ⟨g, h1, h2, h3⟩ := R.obj id o hg; ⟨g, h1, ORel.mono (Rho.le.refl ρ) rfl h2, h3⟩, R.inj, R.dom, R.glob, R.base, R.below.trans ⟨rfl, rfl, rfl, Nat.le_refl _, fun _ _ => rfl⟩⟩

theorem Rel.del (R : Rel P ft B w0 ρ h nx w) (id : Nat) : Rel P ft B w0 ρ (h.del id) nx w := by
  refine ⟨fun i o hg => ?_, fun i j oi oj gi gj hi hj => ?_, R.dom, R.glob, R.base, R.below⟩
  · rw [T.get_del] at hg
    split at hg
    · cases hg
    · exact R.obj i o hg
  · rw [T.get_del] at hi hj
    split at hi
    · cases hi
    · split at hj
      · cases hj
      · exact R.inj i j oi oj gi gj hi hj

/-- an object is written in its own block -/
theorem Rel.upd (R : Rel P ft B w0 ρ h nx w) {id : Nat} {o o' : AO} (hg : h.get id = some o) {g : Gh} (hρ : ρ id = some g) (hro : isRo o = false) (d : Diff B g.b w w') (ho : ORel P ft ρ w' g o') :
    Rel P ft B w0 ρ (h.set id o') nx w' := by
  refine ⟨fun i oi hi => ?_, fun i j oi oj gi gj hi hj => ?_, fun i gi hi => ⟨(R.dom i gi hi).1, Nat.lt_of_lt_of_le (R.dom i gi hi).2 d.size⟩, R.glob, Nat.le_trans R.base d.size, R.below.trans (d.below R.base)⟩
  · rw [T.get_set] at hi
    split at hi
    · rename_i e
      subst e
      cases hi
      exact ⟨g, hρ, ho, .inr d.low⟩
    · rename_i e
      obtain ⟨gi, h1, h2, h3⟩ := R.obj i oi hi
      refine ⟨gi, h1, ORel.mono (Rho.le.refl ρ) (d.other gi.b ?_ (R.dom i gi h1).2) h2, h3⟩
      intro e2
      exact e (R.inj i id oi o gi g hi hg h1 hρ e2).symm
  · have key : ∀ k ok, (h.set id o').get k = some ok → ∃ o2, h.get k = some o2 := by
      intro k ok hk
      rw [T.get_set] at hk
      split at hk
      · rename_i e; subst e; exact ⟨o, hg⟩
      · exact ⟨ok, hk⟩
    obtain ⟨o1, h1⟩ := key i oi hi
    obtain ⟨o2, h2⟩ := key j oj hj
    exact R.inj i j o1 o2 gi gj h1 h2

def Rho.upd (ρ : Rho) (i : Nat) (g : Gh) : Rho := fun j => if j = i then some g else ρ j
theorem Rho.le_upd {g : Gh} (hd : ∀ id g, ρ id = some g → id < nx) : ρ.le (ρ.upd nx g) := by
  intro i g' hi
  unfold Rho.upd
  rw [if_neg (by have := hd i g' hi; omega)]
  exact hi
theorem Rho.upd_self (i : Nat) (g : Gh) : (ρ.upd i g) i = some g := by simp [Rho.upd]

/-- a new number for a block that no living object lies in -/
theorem Rel.put (R : Rel P ft B w0 ρ h nx w) {g : Gh} {o : AO} (d : Diff B g.b w w') (hfree : ∀ i oi gi, h.get i = some oi → ρ i = some gi → gi.b ≠ g.b) (ho : ORel P ft (ρ.upd nx g) w' g o) :
    Rel P ft B w0 (ρ.upd nx g) (h.set nx o) (nx + 1) w' := by
  have hle : ρ.le (ρ.upd nx g) := Rho.le_upd fun id g hh => (R.dom id g hh).1
  have hnone : h.get nx = none := by
    cases hn : h.get nx with
    | none => rfl
    | some o' => obtain ⟨g', h1, _⟩ := R.obj nx o' hn; exact absurd (R.dom nx g' h1).1 (by omega)
  have hold : ∀ i gi oi, h.get i = some oi → (ρ.upd nx g) i = some gi → ρ i = some gi := by
    intro i gi oi hi hh
    unfold Rho.upd at hh
    split at hh
    · rename_i e; subst e; rw [hnone] at hi; cases hi
    · exact hh
  refine ⟨fun i oi hi => ?_, fun i j oi oj gi gj hi hj h1 h2 hb => ?_, fun i gi hi => ?_, fun i hi => ?_, Nat.le_trans R.base d.size, R.below.trans (d.below R.base)⟩
  · rw [T.get_set] at hi
    split at hi
    · rename_i e
      subst e
      cases hi
      exact ⟨g, Rho.upd_self _ _, ho, .inr d.low⟩
    · obtain ⟨gi, h1, h2, h3⟩ := R.obj i oi hi
      exact ⟨gi, hle _ _ h1, ORel.mono hle (d.other gi.b (hfree i oi gi hi h1) (R.dom i gi h1).2) h2, h3⟩
  · rw [T.get_set] at hi hj
    split at hi
    · rename_i e
      subst e
      split at hj
      · rename_i e2; exact e2
      · rw [Rho.upd_self] at h1; cases h1
        exact absurd hb.symm (hfree j oj gj hj (hold j gj oj hj h2))
    · split at hj
      · rename_i e2
        subst e2
        rw [Rho.upd_self] at h2; cases h2
        exact absurd hb (hfree i oi gi hi (hold i gi oi hi h1))
      · exact R.inj i j oi oj gi gj hi hj (hold i gi oi hi h1) (hold j gj oj hj h2) hb
  · unfold Rho.upd at hi
    split at hi
    · rename_i e; subst e; cases hi; exact ⟨by omega, d.lt⟩
    · have := R.dom i gi hi; exact ⟨by omega, Nat.lt_of_lt_of_le this.2 d.size⟩
  · obtain ⟨gi, h1, h2⟩ := R.glob i hi
    exact ⟨gi, hle _ _ h1, h2⟩

theorem Diff.alloc (hB : B ≤ w.heap.size) (o : Obj) : Diff B w.heap.size w (w.alloc o) :=
  ⟨rfl, rfl, rfl, by simp, hB, by simp, fun k hk hl => heap_alloc_old w o k hl⟩
theorem Diff.drew {b : Nat} (d : Diff B b w w') : Diff B b w w'.drew := ⟨d.os, d.tape, d.output, d.size, d.low, d.lt, d.other⟩

/-- a new block -/
theorem Rel.new (R : Rel P ft B w0 ρ h nx w) (obj : Obj) {o : AO} {e sz : Nat} (ho : ORel P ft (ρ.upd nx ⟨w.heap.size, 0, e, sz⟩) (w.alloc obj) ⟨w.heap.size, 0, e, sz⟩ o) :
    Rel P ft B w0 (ρ.upd nx ⟨w.heap.size, 0, e, sz⟩) (h.set nx o) (nx + 1) (w.alloc obj) :=
  R.put (g := ⟨w.heap.size, 0, e, sz⟩) (Diff.alloc R.base obj) (fun i _ gi _ hi => by have := (R.dom i gi hi).2; show gi.b ≠ w.heap.size; omega) ho

/-- cells made -/
theorem treeOf_get (vs : List AV) : ∀ (j : Nat) v, (treeOf vs).get j = some v → vs[j]? = some v := by
  have key : ∀ (vs : List AV) (off : Nat) (t : T AV) (j : Nat) v, (writeCells t off vs).get j = some v → (j < off ∧ t.get j = some v) ∨ (off ≤ j ∧ vs[j - off]? = some v) ∨ (off + vs.length ≤ j ∧ t.get j = some v) := by
    intro vs
    induction vs with
    | nil => intro off t j v h; simp only [writeCells] at h; by_cases hj : j < off
             · exact .inl ⟨hj, h⟩
             · exact .inr (.inr ⟨by simp; omega, h⟩)
    | cons x vs ih =>
      intro off t j v h
      simp only [writeCells] at h
      rcases ih _ _ j v h with ⟨h1, h2⟩ | ⟨h1, h2⟩ | ⟨h1, h2⟩
      · have h1' : j < off + 1 := h1
        rw [T.get_set] at h2
        split at h2
        · rename_i e; subst e; cases h2; exact .inr (.inl ⟨Nat.le_refl _, by simp⟩)
        · exact .inl ⟨by omega, h2⟩
      · have h1' : off + 1 ≤ j := h1
        refine .inr (.inl ⟨by omega, ?_⟩)
        have h2' : vs[j - (off + 1)]? = some v := h2
        rw [show j - off = (j - (off + 1)) + 1 from by omega]
        simpa using h2'
      · have h1' : off + 1 + vs.length ≤ j := h1
        rw [T.get_set] at h2
        split at h2
        · rename_i e; omega
        · exact .inr (.inr ⟨by simp; omega, h2⟩)
  intro j v h
  rcases key vs 0 .nil j v h with ⟨h1, _⟩ | ⟨_, h2⟩ | ⟨_, h2⟩
  · omega
  · simpa using h2
  · simp [T.get_nil] at h2
theorem writeCells_get (vs : List AV) : ∀ (off : Nat) (t : T AV) (j : Nat) v, (writeCells t off vs).get j = some v → (j < off ∧ t.get j = some v) ∨ (off ≤ j ∧ vs[j - off]? = some v) ∨ (off + vs.length ≤ j ∧ t.get j = some v) := by
  induction vs with
  | nil => intro off t j v h; simp only [writeCells] at h; by_cases hj : j < off
           · exact .inl ⟨hj, h⟩
           · exact .inr (.inr ⟨by simp; omega, h⟩)
  | cons x vs ih =>
    intro off t j v h
    simp only [writeCells] at h
    rcases ih _ _ j v h with ⟨h1, h2⟩ | ⟨h1, h2⟩ | ⟨h1, h2⟩
    · have h1' : j < off + 1 := h1
      rw [T.get_set] at h2
      split at h2
      · rename_i e; subst e; cases h2; exact .inr (.inl ⟨Nat.le_refl _, by simp⟩)
      · exact .inl ⟨by omega, h2⟩
    · have h1' : off + 1 ≤ j := h1
      refine .inr (.inl ⟨by omega, ?_⟩)
      have h2' : vs[j - (off + 1)]? = some v := h2
      rw [show j - off = (j - (off + 1)) + 1 from by omega]
      simpa using h2'
    · have h1' : off + 1 + vs.length ≤ j := h1
      rw [T.get_set] at h2
      split at h2
      · rename_i e; omega
      · exact .inr (.inr ⟨by simp; omega, h2⟩)

theorem ORel_cells_new {vs : List AV} {us : List Value} (hv : VRelL ρ' vs us) {g : Gh} {el : TypeId} {ro opn : Bool} {rest : List Value} (hb : w'.heap[g.b]? = some (.cells (us ++ rest).toArray el (0, 0))) (hd : g.d = 0) (hs : g.sz = us.length + rest.length) {e : Nat} (he : g.e = e) :
    ORel P ft ρ' w' g (.cells (treeOf vs) vs.length ro opn e) := by
  have hl := hv.length
  refine ⟨_, el, (0, 0), hb, by simp [hs], .inl rfl, by rw [hd, hs]; omega, he, fun j v hj hg => ?_⟩
  obtain ⟨u, h1, h2⟩ := hv.get j v (treeOf_get vs j v hg)
  refine ⟨u, ?_, h2⟩
  rw [hd, Nat.zero_add]
  simp only [List.getElem?_toArray]
  rw [List.getElem?_append_left (by omega)]; exact h1
end Go.Md
end
section
/- STORES: cells written in their block. No condition. -/
namespace Go.Md
open Go.RowKit (Below)
variable {P : Program} {ft : FT} {B : Nat} {w0 w w' : World} {ρ ρ' : Rho} {h h' : T AO} {nx nx' : Nat}

theorem setCells_heap (b : Nat) {el : TypeId} {fz : Nat × Nat} : ∀ (vs : List Value) (o : Nat) (w : World) (arr : Array Value), w.heap[b]? = some (.cells arr el fz) → o + vs.length ≤ arr.size →
    ∃ arr', (w.setCells b o vs).heap[b]? = some (.cells arr' el fz) ∧ arr'.size = arr.size ∧ ∀ i : Nat, arr'[i]? = if i < o then arr[i]? else if i < o + vs.length then vs[i - o]? else arr[i]?
  | [], o, w, arr, hb, _ => ⟨arr, hb, rfl, fun i => by simp; intro h1 h2; omega⟩
  | v :: r, o, w, arr, hb, hl => by
    simp only [List.length_cons] at hl
    have h1 : (w.setCell ⟨b, o, none⟩ v).heap[b]? = some (.cells (arr.setIfInBounds o v) el fz) := by
      simp [World.setCell, Array.getElem?_modify, hb]
    obtain ⟨arr', h2, h3, h4⟩ := setCells_heap b r (o + 1) _ _ h1 (by simp; omega)
    refine ⟨arr', h2, by simpa using h3, fun i => ?_⟩
    rw [h4 i]
    simp only [List.length_cons]
    by_cases hi : i < o
    · rw [if_pos (by omega), if_pos hi, Array.getElem?_setIfInBounds_ne (by omega)]
    · by_cases he : i = o
      · subst he
        rw [if_pos (by omega), if_neg (by omega), if_pos (by omega), Array.getElem?_setIfInBounds_self_of_lt (by omega)]
        simp
      · rw [if_neg (by omega), if_neg hi]
        by_cases h5 : i < o + (r.length + 1)
        · rw [if_pos (by omega), if_pos h5, show i - o = (i - (o + 1)) + 1 from by omega]
          simp
        · rw [if_neg (by omega), if_neg h5, Array.getElem?_setIfInBounds_ne (by omega)]

theorem setCell_other (w : World) (b o : Nat) (v : Value) (k : Nat) (hk : k ≠ b) : (w.setCell ⟨b, o, none⟩ v).heap[k]? = w.heap[k]? := by
  simp only [World.setCell, Array.getElem?_modify]
  rw [if_neg (fun e => hk e.symm)]
theorem setCells_other (b : Nat) : ∀ (vs : List Value) (o : Nat) (w : World) (k : Nat), k ≠ b → (w.setCells b o vs).heap[k]? = w.heap[k]?
  | [], _, _, _, _ => rfl
  | v :: r, o, w, k, hk => by rw [World.setCells, setCells_other b r _ _ k hk, setCell_other w b o v k hk]
theorem setCells_same (b : Nat) : ∀ (vs : List Value) (o : Nat) (w : World), (w.setCells b o vs).os = w.os ∧ (w.setCells b o vs).tape = w.tape ∧ (w.setCells b o vs).output = w.output ∧ (w.setCells b o vs).heap.size = w.heap.size ∧ (w.setCells b o vs).drawn = w.drawn
  | [], _, _ => ⟨rfl, rfl, rfl, rfl, rfl⟩
  | v :: r, o, w => by
    obtain ⟨a, b', c, d, e⟩ := setCells_same b r (o + 1) (w.setCell ⟨b, o, none⟩ v)
    exact ⟨a, b', c, by rw [World.setCells, d]; simp, e⟩
theorem Diff.setCells {b o : Nat} {vs : List Value} (hB : B ≤ b) (hl : b < w.heap.size) : Diff B b w (w.setCells b o vs) := by
  obtain ⟨a, b', c, d, e⟩ := setCells_same b vs o w
  exact ⟨a, b', c, by omega, hB, by omega, fun k hk _ => setCells_other b vs o w k hk⟩

theorem allOne_mem : ∀ {vs : List AV}, allOne vs = true → ∀ v ∈ vs, v.one = true
  | [], _, v, hm => by cases hm
  | x :: r, ho, v, hm => by
    unfold allOne at ho
    split at ho
    · rename_i hx
      rcases List.mem_cons.1 hm with rfl | hm
      · exact hx
      · exact allOne_mem ho v hm
    · cases ho
theorem VRelL.oneCells : ∀ {vs : List AV} {us : List Value}, VRelL ρ vs us → allOne vs = true → ∀ u ∈ us, u.oneCell' = true
  | [], _, hv, _, u, hm => by cases hv; cases hm
  | x :: r, _, ⟨y, s, e, h1, h2⟩, ho, u, hm => by
    subst e
    have ho' : x.one = true ∧ allOne r = true := by
      unfold allOne at ho
      split at ho
      · rename_i hx; exact ⟨hx, ho⟩
      · cases ho
    rcases List.mem_cons.1 hm with rfl | hm
    · exact h1.oneCell ho'.1
    · exact VRelL.oneCells h2 ho'.2 u hm

theorem packAV_spec : ∀ {vs : List AV} {x : Nat}, packAV vs = some x → x < 256 ^ vs.length ∧ ∀ (j : Nat) v, vs[j]? = some v → v = .int .u8 (.ofNat (byt x j))
  | [], x, hp => by cases hp; exact ⟨by simp, fun j v hj => by simp at hj⟩
  | y :: r, x, hp => by
    unfold packAV at hp
    split at hp
    · rename_i h0; cases h0
    · rename_i k a r' h0
      cases h0
      split at hp
      · rename_i hk
        split at hp
        · rename_i ha
          split at hp
          · rename_i n hn
            cases hp
            obtain ⟨h1, h2⟩ := packAV_spec hn
            have hk' := (kEq_iff _ _).1 hk
            subst hk'
            have ha' := lt_of_blt ha
            have hx : Nat.add a (Nat.mul n 256) = a + n * 256 := rfl
            rw [hx]
            refine ⟨by simp only [List.length_cons, Nat.pow_succ]; omega, fun j v hj => ?_⟩
            cases j with
            | zero =>
              simp only [List.length_cons, List.getElem?_cons_zero, Option.some.injEq] at hj
              subst hj
              rw [byt_zero]
              congr 2
              omega
            | succ j =>
              simp only [List.getElem?_cons_succ] at hj
              rw [h2 j v hj, byt_succ]
              congr 3
              omega
          · cases hp
        · cases hp
      · cases hp
    · cases hp

theorem notFrozen {b j : Nat} {arr : Array Value} {el : TypeId} {fz : Nat × Nat} (hb : w.heap[b]? = some (.cells arr el fz)) (hf : fzOk fz arr.size) (hj : j < arr.size) : w.frozen? ⟨b, j, none⟩ = false := by
  obtain ⟨lo, hi⟩ := fz
  simp only [World.frozen?, hb]
  rcases hf with h1 | h1
  · cases h1; simp
  · have h1' : arr.size ≤ lo := h1
    have : ¬ lo ≤ j := by omega
    simp [this]

theorem run_store_list {b o : Nat} {arr : Array Value} {el : TypeId} {fz : Nat × Nat} (hb : w.heap[b]? = some (.cells arr el fz)) (hf : fzOk fz arr.size) {us : List Value} (hl : o + us.length ≤ arr.size) (h1 : ∀ u ∈ us, u.oneCell' = true) :
    (Go.storeCells ⟨b, o, none⟩ us).run P w = .ok () (w.setCells b o us) := by
  have := run_storeCells_cells (P := P) b o us 0 w (fun j hj => by rw [cell_of hb]; simp; omega) (fun j hj => notFrozen hb hf (by omega)) h1
  simpa using this

theorem storeCells_ok (R : Rel P ft B w0 ρ h nx w) {id off : Nat} {vs : List AV} (hs : storeCells h id off vs = some h') {g : Gh} (hρ : ρ id = some g) {us : List Value} (hv : VRelL ρ vs us) :
    (Go.storeCells ⟨g.b, g.d + off, none⟩ us).run P w = .ok () (w.setCells g.b (g.d + off) us) ∧ Rel P ft B w0 ρ h' nx (w.setCells g.b (g.d + off) us) := by
  have hlen := hv.length
  unfold storeCells at hs
  split at hs
  · cases hs
  · rename_i hone
    have h1 := hv.oneCells hone
    split at hs
    · rename_i l m ro o e hg
      split at hs
      · cases hs
      · split at hs
        · rename_i hle
          cases hs
          have hle' : off + vs.length ≤ m := le_of_ble hle
          obtain ⟨g', hρ', ho, hB⟩ := R.obj _ _ hg
          rw [hρ] at hρ'; cases hρ'
          have hB' : B ≤ g.b := by rcases hB with hB | hB; · simp [isRo] at hB
                                   · exact hB
          obtain ⟨arr, el, fz, hb, hsz, hfz, hn, he, hc⟩ := ho
          have hbl : g.b < w.heap.size := (R.dom _ _ hρ).2
          obtain ⟨arr', hb', hsz', hget⟩ := setCells_heap g.b us (g.d + off) w arr hb (by omega)
          refine ⟨run_store_list hb hfz (by omega) h1, R.upd hg hρ rfl (Diff.setCells hB' hbl) ⟨arr', el, fz, hb', by rw [hsz', hsz], by rw [hsz']; exact hfz, hn, he, fun j v hj hjv => ?_⟩⟩
          rw [hget]
          rcases writeCells_get vs off l j v hjv with ⟨a1, a2⟩ | ⟨a1, a2⟩ | ⟨a1, a2⟩
          · obtain ⟨u, u1, u2⟩ := hc j v hj a2
            exact ⟨u, by rw [if_pos (by omega)]; exact u1, u2⟩
          · obtain ⟨u, u1, u2⟩ := hv.get _ _ a2
            have : j - off < vs.length := by
              rw [← hlen]
              exact (List.getElem?_eq_some_iff.1 u1).1
            exact ⟨u, by rw [if_neg (by omega), if_pos (by omega), show g.d + j - (g.d + off) = j - off from by omega]; exact u1, u2⟩
          · obtain ⟨u, u1, u2⟩ := hc j v hj a2
            exact ⟨u, by rw [if_neg (by omega), if_neg (by omega)]; exact u1, u2⟩
        · cases hs
    · rename_i bits m o hg
      split at hs
      · rename_i hle
        split at hs
        · rename_i x hx
          cases hs
          have hle' : off + vs.length ≤ m := le_of_ble hle
          obtain ⟨g', hρ', ho, hB⟩ := R.obj _ _ hg
          rw [hρ] at hρ'; cases hρ'
          have hB' : B ≤ g.b := by rcases hB with hB | hB; · simp [isRo] at hB
                                   · exact hB
          obtain ⟨arr, el, fz, hb, hsz, hfz, hn, he, hc⟩ := ho
          have hbl : g.b < w.heap.size := (R.dom _ _ hρ).2
          obtain ⟨arr', hb', hsz', hget⟩ := setCells_heap g.b us (g.d + off) w arr hb (by omega)
          obtain ⟨hx1, hx2⟩ := packAV_spec hx
          refine ⟨run_store_list hb hfz (by omega) h1, R.upd hg hρ rfl (Diff.setCells hB' hbl) ⟨arr', el, fz, hb', by rw [hsz', hsz], by rw [hsz']; exact hfz, hn, he, fun j hj => ?_⟩⟩
          rw [hget, byt_put hx1]
          by_cases c1 : j < off
          · rw [if_pos (by omega), if_pos c1]; exact hc j hj
          · rw [if_neg (by omega), if_neg c1]
            by_cases c2 : j < off + vs.length
            · rw [if_pos (by omega), if_pos c2, show g.d + j - (g.d + off) = j - off from by omega]
              have hj2 : j - off < vs.length := by omega
              have e1 : vs[j - off]? = some vs[j - off] := List.getElem?_eq_getElem hj2
              obtain ⟨u, u1, u2⟩ := hv.get _ _ e1
              rw [hx2 _ _ e1] at u2
              rw [u1, u2]
              rfl
            · rw [if_neg (by omega), if_neg c2]; exact hc j hj
        · cases hs
      · cases hs
    · cases hs
end Go.Md
end
section
/- APPEND. What is appended, of whatever source; room or none. No condition. -/
namespace Go.Md
open Go.RowKit (Below)
variable {P : Program} {ft : FT} {B : Nat} {w0 w w' : World} {ρ ρ' : Rho} {h h' : T AO} {nx nx' : Nat}

/-- an operation's end: a value, a new heap -/
def SOk (P : Program) (ft : FT) (B : Nat) (w0 : World) (ρ : Rho) (w : World) (s : Sem Value) (v : AV) (h' : T AO) (nx' : Nat) : Prop :=
  ∃ ρ' w' u, ρ.le ρ' ∧ s.run P w = .ok u w' ∧ VRel ρ' v u ∧ Rel P ft B w0 ρ' h' nx' w'

structure El (P : Program) (e : TypeId) (esz : Nat) (zs : List AV) where
  i : TypeInfo
  z : Value
  hi : P.info? e = some i
  hz : i.zero = some z
  size : i.size = esz
  bytes : i.bytes ≤ 1048576
  zsize : z.cells.size = esz
  pos : 0 < esz
  zrel : ∀ ρ, VRelL ρ zs z.cells.toList

theorem elT_spec {e : TypeId} {b : Bool} {n : Nat} {zs : List AV} (he : elT P e = some (b, n, zs)) : Nonempty (El P e n zs) ∧ (b = true → n = 1 ∧ zs = [.int .u8 (.ofNat 0)] ∧ isU8 P e = true) := by
  unfold elT at he
  split at he
  · rename_i i hi
    split at he
    · rename_i z hz
      split at he
      · rename_i hc
        simp only [Bool.and_eq_true, Bool.or_eq_true, decide_eq_true_eq, beq_iff_eq, Bool.not_eq_true'] at hc
        cases he
        obtain ⟨⟨⟨h1, h2⟩, h3⟩, h4⟩ := hc
        unfold zeroCells? at hz
        cases hzo : zeroOf P e with
        | none => simp [hzo] at hz
        | some a =>
          simp [hzo] at hz
          subst hz
          obtain ⟨zv, _, hr, i', hi', hzi⟩ := zeroOf_rel (P := P) (w := default) (ρ := fun _ => none) hzo
          rw [hi] at hi'; cases hi'
          have hlen := hr.cells.length
          have hzs : zv.cells.size = i.size := by rw [← h3, ← hlen]; simp
          refine ⟨⟨⟨i, zv, hi, hzi, rfl, h1, hzs, h2, fun ρ => (hr.mono (fun _ _ h => by cases h)).cells⟩⟩, fun hb => ?_⟩
          rcases h4 with h4 | h4
          · rw [h4] at hb; cases hb
          · refine ⟨h4.1, ?_, hb⟩
            have := h4.2
            unfold z0 at this
            split at this
            · assumption
            · cases this
      · cases he
    · cases he
  · cases he

/-- what is appended -/
structure AppR (P : Program) (w : World) (at_ : Array TypeId) (ty : TypeId) (e : TypeId) (size : Nat) (z : Value) (x : Value) (n : Nat) (news : List Value) : Prop where
  len : news.length = n * size
  nothing : n = 0 → ∀ base sLen sCap, sLen ≤ sCap → (Builtin.append_ at_ ty #[.slice base sLen sCap, x]).run P w = .ok (.slice base sLen sCap) w
  room : ∀ b off sLen sCap arr el fz, w.heap[b]? = some (.cells arr el fz) → fzOk fz arr.size → off + sLen * size + news.length ≤ arr.size → sLen + n ≤ sCap →
    (Builtin.append_ at_ ty #[.slice (some ⟨b, off, none⟩) sLen sCap, x]).run P w = .ok (.slice (some ⟨b, off, none⟩) (sLen + n) sCap) (w.setCells b (off + sLen * size) news)
  grow : ∀ base sLen sCap olds, (Builtin.firstCells size sLen (.slice base sLen sCap)).run P w.drew = .ok (olds : List Value).toArray w.drew → sCap < sLen + n → sLen + n ≤ 67108864 →
    (Builtin.append_ at_ ty #[.slice base sLen sCap, x]).run P w = .ok (.slice (some ⟨w.heap.size, 0, none⟩) (sLen + n) (grownCap w (sLen + n) sCap e))
      (w.drew.alloc (.cells ((olds ++ news).toArray ++ Builtin.zeroCells z.cells (grownCap w (sLen + n) sCap e - (sLen + n))) e))

theorem cellsThere {b o : Nat} {arr : Array Value} {el : TypeId} {fz : Nat × Nat} (hb : w.heap[b]? = some (.cells arr el fz)) {n : Nat} (hl : o + n ≤ arr.size) : ∀ j, j < n → (w.cell? ⟨b, o + j, none⟩).isSome = true := by
  intro j hj
  rw [cell_of hb]; simp; omega

theorem AppR.ofSrc {t tx ty e : TypeId} (ht : P.underlying t = some (.slice e)) {esz : Nat} {zs : List AV} (E : El P e esz zs) {x : Value} {n : Nat} {news : List Value} (hs : Src P E.i.size tx x n news w) : AppR P w #[t, tx] ty e E.i.size E.z x n news := by
  refine ⟨hs.newsLen, ?_, ?_, ?_⟩
  · rintro rfl base sLen sCap hle
    have hn : news = [] := by have := hs.newsLen; simpa using this
    subst hn
    rcases hs.kind with ⟨e', hk⟩ | hk <;> cases base <;> simp [Builtin.append_, run_und ht, run_und hk, run_size (szOf_some' E.hi), hs.len, hle, hs.cells, Go.storeCells]
  · intro b off sLen sCap arr el fz hb hf hl hr
    exact run_append_room_src w t tx ty e E.i ht E.hi b off sLen sCap x n news hs hr (cellsThere hb hl) fun j hj => notFrozen hb hf (by omega)
  · intro base sLen sCap olds hold hg hm
    refine run_append_grow_src w t tx ty e E.i E.z ht E.hi E.hz base sLen sCap olds hold x n news hs hg (by omega) (growslice_fits hg ?_)
    calc (sLen + n) * E.i.bytes ≤ 67108864 * 1048576 := Nat.mul_le_mul hm E.bytes
      _ ≤ 140737488355328 := by decide

theorem AppR.ofZeros {t tx ty e : TypeId} {ik : IntKind} (ht : P.underlying t = some (.slice e)) (hx : P.underlying tx = some (.int ik)) {esz : Nat} {zs : List AV} (E : El P e esz zs) (h1 : ∀ u ∈ E.z.cells.toList, u.oneCell' = true) (k : IntKind) (n : Nat) (hn : n ≤ 1048576) :
    AppR P w #[t, tx] ty e E.i.size E.z (.int k (Int.ofNat n)) n (Builtin.zeroCells E.z.cells n).toList := by
  have hzs : E.z.cells.size = E.i.size := by rw [E.zsize, E.size]
  have hpos : 0 < E.i.size := by rw [E.size]; exact E.pos
  have hw : IntKind.i64.wrap (n : Int) = (n : Int) := by rw [IntKind.wrap_i64]; omega
  have hneg : ¬ ((n : Int) < 0) := by omega
  have hbytes : ¬ (281474976710656 < (n : Int) * (E.i.bytes : Int)) := by
    have : n * E.i.bytes ≤ 1048576 * 1048576 := Nat.mul_le_mul hn E.bytes
    have h2 : ((n * E.i.bytes : Nat) : Int) = (n : Int) * (E.i.bytes : Int) := Int.natCast_mul n E.i.bytes
    omega
  have hzl : (Builtin.zeroCells E.z.cells n).toList.length = n * E.i.size := by simp [size_zeroCells, hzs]
  have hempty : n * E.i.size = 0 → Builtin.zeroCells E.z.cells n = #[] := by
    intro h0
    apply Array.eq_empty_of_size_eq_zero
    rw [size_zeroCells, hzs]; exact h0
  have hone : ∀ u ∈ (Builtin.zeroCells E.z.cells n).toList, u.oneCell' = true := by
    intro u hu
    simp only [Builtin.zeroCells, Array.toList_map, List.mem_map] at hu
    obtain ⟨i, _, rfl⟩ := hu
    have hp : 0 < E.z.cells.size := by rw [hzs]; exact hpos
    have hlt : i % E.z.cells.size < E.z.cells.size := Nat.mod_lt _ hp
    refine h1 _ ?_
    rw [getElem!_pos E.z.cells _ hlt]
    simp
  refine ⟨hzl, ?_, ?_, ?_⟩
  · rintro rfl base sLen sCap hle
    cases base <;> simp [Builtin.append_, run_und ht, run_und hx, run_size (szOf_some' E.hi), run_tinfo E.hi, asInt, asIntOf, IntKind.wrap_i64, hle, Go.storeCells]
  · intro b off sLen sCap arr el fz hb hf hl hr
    have hst := run_storeCells_cells (P := P) b (off + sLen * E.i.size) _ 0 w (by simpa using cellsThere hb hl) (fun j hj => notFrozen hb hf (by omega)) hone
    simp only [Nat.add_zero] at hst
    by_cases h0 : n * E.i.size = 0
    · have := hempty h0
      rw [this] at hst ⊢
      simp [Builtin.append_, run_und ht, run_und hx, run_size (szOf_some' E.hi), run_tinfo E.hi, asInt, asIntOf, hw, hneg, hbytes, hr, h0, add_addr, hst]
    · simp [Builtin.append_, run_und ht, run_und hx, run_size (szOf_some' E.hi), run_tinfo E.hi, asInt, asIntOf, hw, hneg, hbytes, hr, h0, add_addr, hst, zeroValue, E.hz]
  · intro base sLen sCap olds hold hg hm
    have hn' : ¬ (sLen + n ≤ sCap) := by omega
    have h63' : ¬ (9223372036854775807 < ((sLen : Int) + (n : Int))) := by omega
    have hfit := growslice_fits (bytes := E.i.bytes) hg (by
      calc (sLen + n) * E.i.bytes ≤ 67108864 * 1048576 := Nat.mul_le_mul hm E.bytes
        _ ≤ 140737488355328 := by decide)
    have h48' : ¬ (281474976710656 < Builtin.nextslicecap (sLen + n) sCap * E.i.bytes) := by omega
    by_cases h0 : n * E.i.size = 0
    · have := hempty h0
      rw [this]
      simp [Builtin.append_, run_und ht, run_und hx, run_size (szOf_some' E.hi), run_tinfo E.hi, asInt, asIntOf, hw, hneg, hbytes, hn', h63', h48', h0, Question.forced, hold, newRow, grownCap, zeroValue, E.hz]
    · simp [Builtin.append_, run_und ht, run_und hx, run_size (szOf_some' E.hi), run_tinfo E.hi, asInt, asIntOf, hw, hneg, hbytes, hn', h63', h48', h0, Question.forced, hold, newRow, grownCap, zeroValue, E.hz]
      congr 2
      apply Array.ext'
      simp [List.append_assoc]

/-- an object's words: what a row must hold to be it -/
def OFits (P : Program) (ft : FT) (ρ : Rho) (o : AO) (e : Nat) (us : List Value) : Prop :=
  ∀ ρ' w' g arr el fz, ρ.le ρ' → w'.heap[g.b]? = some (.cells arr el fz) → arr.size = g.sz → fzOk fz arr.size → g.d + us.length ≤ g.sz → g.e = e → (∀ j : Nat, j < us.length → arr[g.d + j]? = us[j]?) → ORel P ft ρ' w' g o
theorem OFits.cells {vs : List AV} {us : List Value} (hv : VRelL ρ vs us) (e : Nat) (ro opn : Bool) : OFits P ft ρ (.cells (treeOf vs) vs.length ro opn e) e us := by
  intro ρ' w' g arr el fz hle hb hs hf hd he hc
  have hl := hv.length
  refine ⟨arr, el, fz, hb, hs, hf, by omega, he, fun j v hj hg => ?_⟩
  obtain ⟨u, h1, h2⟩ := hv.get j v (treeOf_get vs j v hg)
  exact ⟨u, by rw [hc j (by omega)]; exact h1, h2.mono hle⟩
def byteVals (bits n : Nat) : List Value := (List.range n).map fun j => .int .u8 (byt bits j)
theorem byteVals_length (bits n : Nat) : (byteVals bits n).length = n := by simp [byteVals]
theorem byteVals_get (bits n j : Nat) (h : j < n) : (byteVals bits n)[j]? = some (.int .u8 (byt bits j)) := by simp [byteVals, h]
theorem OFits.bytes (bits n : Nat) (opn : Bool) : OFits P ft ρ (.bytes bits n opn) 1 (byteVals bits n) := by
  intro ρ' w' g arr el fz hle hb hs hf hd he hc
  rw [byteVals_length] at hd hc
  exact ⟨arr, el, fz, hb, hs, hf, hd, he, fun j hj => by rw [hc j hj, byteVals_get bits n j hj]⟩
theorem byteVals_cat {a n b m : Nat} (ha : a < 256 ^ n) : byteVals (catB a n b) (n + m) = byteVals a n ++ byteVals b m := by
  apply List.ext_getElem?
  intro i
  by_cases h1 : i < n
  · rw [byteVals_get _ _ _ (by omega), List.getElem?_append_left (by rw [byteVals_length]; exact h1), byteVals_get _ _ _ h1, byt_cat_lo n b i h1]
  · rw [List.getElem?_append_right (by rw [byteVals_length]; omega), byteVals_length]
    by_cases h2 : i < n + m
    · rw [byteVals_get _ _ _ h2, byteVals_get _ _ _ (by omega), byt_cat_hi n b i ha (by omega)]
    · rw [List.getElem?_eq_none (by rw [byteVals_length]; omega), List.getElem?_eq_none (by rw [byteVals_length]; omega)]

theorem setCells_get_olds {b o : Nat} {arr : Array Value} {olds news : List Value} (hold : ∀ j : Nat, j < olds.length → arr[o + j]? = olds[j]?) {arr' : Array Value}
    (hget : ∀ i : Nat, arr'[i]? = if i < o + olds.length then arr[i]? else if i < o + olds.length + news.length then news[i - (o + olds.length)]? else arr[i]?) : ∀ j : Nat, j < (olds ++ news).length → arr'[o + j]? = (olds ++ news)[j]? := by
  intro j hj
  simp only [List.length_append] at hj
  rw [hget]
  by_cases h1 : j < olds.length
  · rw [if_pos (by omega), List.getElem?_append_left h1, hold j h1]
  · rw [if_neg (by omega), if_pos (by omega), List.getElem?_append_right (by omega), show o + j - (o + olds.length) = j - olds.length from by omega]

/-- no room: a new row -/
theorem app_grow {at_ : Array TypeId} {ty e : TypeId} {size : Nat} {z x : Value} {n : Nat} {news : List Value} (A : AppR P w at_ ty e size z x n news) (hz : z.cells.size = size) (R : Rel P ft B w0 ρ h nx w)
    {base : Option Addr} {sLen sCap : Nat} {olds : List Value} (hold : (Builtin.firstCells size sLen (.slice base sLen sCap)).run P w.drew = .ok olds.toArray w.drew) (hol : olds.length = sLen * size) (hg : sCap < sLen + n) (hm : sLen + n ≤ 67108864)
    {o : AO} (ho : OFits P ft ρ o size (olds ++ news)) : SOk P ft B w0 ρ w (Builtin.append_ at_ ty #[.slice base sLen sCap, x]) (.sl nx 0 (sLen + n) none) (h.set nx o) (nx + 1) := by
  have hr := A.grow base sLen sCap olds hold hg hm
  have hcap := grownCap_ge w (sLen + n) sCap e
  have hnl := A.len
  refine ⟨ρ.upd nx ⟨w.heap.size, 0, size, grownCap w (sLen + n) sCap e * size⟩, _, _, Rho.le_upd fun id g hh => (R.dom id g hh).1, hr, ?_, ?_⟩
  · refine ⟨_, _, Rho.upd_self _ _, rfl, hcap, ?_⟩
    show 0 + 0 + _ * size ≤ _ * size
    omega
  · refine R.drew.new (obj := .cells _ e) (e := size) (sz := grownCap w (sLen + n) sCap e * size) (ho _ _ _ _ _ (0, 0) (Rho.le_upd fun id g hh => (R.dom id g hh).1) (by exact Array.getElem?_push_size) ?_ (.inl rfl) ?_ rfl ?_)
    · simp only [Array.size_append, List.size_toArray, List.length_append, size_zeroCells, hol, hnl, hz]
      rw [← Nat.add_mul, ← Nat.add_mul, Nat.add_sub_cancel' hcap]
    · show 0 + _ ≤ _
      rw [List.length_append, hol, hnl, ← Nat.add_mul, Nat.zero_add]
      exact Nat.mul_le_mul_right _ hcap
    · intro j hj
      show ((olds ++ news).toArray ++ _)[0 + j]? = _
      rw [Nat.zero_add, Array.getElem?_append_left (by simpa using hj)]
      simp
end Go.Md
end
