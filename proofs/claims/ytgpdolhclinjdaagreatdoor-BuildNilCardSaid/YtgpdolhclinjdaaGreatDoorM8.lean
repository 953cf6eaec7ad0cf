import Derived.Great.BuildSlice
import Derived.Laws.MakeOwn
import Derived.Test.YtgpdolhclinjdaaGreatDoorM7
set_option linter.unusedVariables false
set_option linter.unusedSimpArgs false
set_option linter.unusedSectionVars false
section
/- MAPS: an entry written, taken out. No condition. -/
namespace Go.Md
open Go.RowKit (Below)
variable {P : Program} {ft : FT} {B : Nat} {w0 w w' : World} {ρ ρ' : Rho} {h h' : T AO} {nx nx' : Nat}

theorem ksOk_fun {k : KS} {x : AV} {u v : Value} (hk : ksOk k x = true) (hu : VRel ρ x u) (hv : VRel ρ x v) : u = v ∧ ∀ n, Instr.sameBits n u u = true := by
  cases k with
  | int k => obtain ⟨n, rfl⟩ := ksOk_int hk; cases hu; cases hv; exact ⟨rfl, fun n => by cases n <;> simp [Instr.sameBits]⟩
  | str => obtain ⟨b, n, rfl⟩ := ksOk_str hk; obtain ⟨_, rfl⟩ := hu; obtain ⟨_, rfl⟩ := hv; exact ⟨rfl, fun n => by cases n <;> (rw [Instr.sameBits, beq_toListBytes]; simp)⟩
  | bool => obtain ⟨b, rfl⟩ := ksOk_bool hk; cases hu; cases hv; exact ⟨rfl, fun n => by cases n <;> simp [Instr.sameBits]⟩
theorem ksOkL_fun : ∀ {l : List KS} {m : List AV} {a b : List Value}, ksOkL l m = true → VRelL ρ m a → VRelL ρ m b → a = b ∧ ∀ n, (a.zip a).all (fun (x, y) => Instr.sameBits n x y) = true
  | [], [], a, b, _, ha, hb => by cases ha; cases hb; simp
  | [], _ :: _, _, _, h, _, _ => by simp [ksOkL] at h
  | _ :: _, [], _, _, h, _, _ => by simp [ksOkL] at h
  | k :: l, x :: m, a, b, h, ⟨y, s, e, h1, h2⟩, ⟨y', s', e', h1', h2'⟩ => by
    simp only [ksOkL] at h
    split at h
    · rename_i hk
      obtain ⟨rfl, e1⟩ := ksOk_fun hk h1 h1'
      obtain ⟨rfl, e2⟩ := ksOkL_fun h h2 h2'
      subst e; subst e'
      exact ⟨rfl, fun n => by simp only [List.zip_cons_cons, List.all_cons, e1, e2 n, Bool.and_self]⟩
    · cases h
theorem shOk_fun {s : KSh} {x : AV} {u v : Value} (hs : shOk s x = true) (hu : VRel ρ x u) (hv : VRel ρ x v) : u = v ∧ Instr.sameBits 10000 u u = true := by
  cases s with
  | one k => obtain ⟨h1, h2⟩ := ksOk_fun (shOk_one hs) hu hv; exact ⟨h1, h2 _⟩
  | agg l =>
    obtain ⟨m, rfl, hm⟩ := shOk_agg hs
    obtain ⟨a, rfl, ha⟩ := hu
    obtain ⟨b, rfl, hb⟩ := hv
    obtain ⟨rfl, h2⟩ := ksOkL_fun hm ha hb
    refine ⟨rfl, ?_⟩
    have := h2 9999
    rw [show (10000 : Nat) = 9999 + 1 from rfl, Instr.sameBits]
    simpa using this

theorem ERelL.split : ∀ {es1 : List (AV × AV × Nat)} {x : AV × AV × Nat} {es2 : List (AV × AV × Nat)} {l : List MapEntry}, ERelL ρ (es1 ++ x :: es2) l → ∃ l1 e l2, l = l1 ++ e :: l2 ∧ ERelL ρ es1 l1 ∧ ERel ρ x e ∧ ERelL ρ es2 l2
  | [], x, es2, l, ⟨e, s, he, h1, h2⟩ => ⟨[], e, s, he, rfl, h1, h2⟩
  | y :: es1, x, es2, l, ⟨e, s, he, h1, h2⟩ => by
    obtain ⟨l1, e', l2, rfl, a, b, c⟩ := ERelL.split (es1 := es1) h2
    exact ⟨e :: l1, e', l2, he, ⟨e, l1, rfl, h1, a⟩, b, c⟩
theorem ERelL.app : ∀ {es1 es2 : List (AV × AV × Nat)} {l1 l2 : List MapEntry}, ERelL ρ es1 l1 → ERelL ρ es2 l2 → ERelL ρ (es1 ++ es2) (l1 ++ l2)
  | [], _, _, _, h, k => by cases h; exact k
  | _ :: _, _, _, _, ⟨e, s, he, h1, h2⟩, k => by subst he; exact ⟨e, _, rfl, h1, ERelL.app h2 k⟩

theorem mapFind_split {k v : AV} {n : Nat} : ∀ {es : List (AV × AV × Nat)}, mapFind k es = some (v, n) → ∃ es1 es2, es = es1 ++ (k, v, n) :: es2 ∧ mapDel k es = es1 ++ es2
  | [], h => by simp [mapFind] at h
  | e :: r, h => by
    simp only [mapFind] at h
    split at h
    · rename_i hb
      have := (AV.beq_iff _ _).1 hb
      obtain ⟨a, b⟩ := e
      simp at this h
      subst this; subst h
      exact ⟨[], r, rfl, by simp [mapDel, hb]⟩
    · rename_i hb
      obtain ⟨es1, es2, rfl, h2⟩ := mapFind_split h
      exact ⟨e :: es1, es2, rfl, by simp [mapDel, hb, h2]⟩
theorem mapDel_none {k : AV} : ∀ {es : List (AV × AV × Nat)}, mapFind k es = none → mapDel k es = es
  | [], _ => rfl
  | e :: r, h => by
    simp only [mapFind] at h
    split at h
    · cases h
    · rename_i hb
      simp [mapDel, hb, mapDel_none h]

theorem modify_mid {α : Type} (f : α → α) (e : α) (C : List α) : ∀ A : List α, (A ++ e :: C).modify A.length f = A ++ f e :: C
  | [] => by simp
  | a :: A => by simp [modify_mid f e C A]
theorem eraseIdx_mid {α : Type} (e : α) (C : List α) : ∀ A : List α, (A ++ e :: C).eraseIdx A.length = A ++ C
  | [] => by simp
  | a :: A => by simp [eraseIdx_mid e C A]
theorem split_at {α : Type} : ∀ (L : List α) (j : Nat) (e : α), L[j]? = some e → ∃ A C, L = A ++ e :: C ∧ A.length = j
  | [], j, e, h => by simp at h
  | x :: L, 0, e, h => by simp at h; subst h; exact ⟨[], L, rfl, rfl⟩
  | x :: L, j+1, e, h => by
    obtain ⟨A, C, rfl, h2⟩ := split_at L j e (by simpa using h)
    exact ⟨x :: A, C, rfl, by simp [h2]⟩

/-- the entry of a key that is found: where it stands on both sides -/
theorem map_split {es : List (AV × AV × Nat)} {k v : AV} {n : Nat} (hf : mapFind k es = some (v, n)) {ents l : List MapEntry} (hp : ents.Perm l) (he : ERelL ρ es l) (hds : (es.map (·.2.2)).Nodup) {j : Nat} {e : MapEntry} (hj : ents[j]? = some e) (hr : ERel ρ (k, v, n) e) :
    ∃ es1 es2 A C l1 l2, es = es1 ++ (k, v, n) :: es2 ∧ mapDel k es = es1 ++ es2 ∧ ents = A ++ e :: C ∧ A.length = j ∧ (A ++ C).Perm (l1 ++ l2) ∧ ERelL ρ es1 l1 ∧ ERelL ρ es2 l2 := by
  obtain ⟨es1, es2, hes, hdel⟩ := mapFind_split hf
  obtain ⟨A, C, hA, hAl⟩ := split_at _ _ _ hj
  rw [hes] at he hds
  obtain ⟨l1, e2, l2, rfl, r1, r2, r3⟩ := ERelL.split he
  have hborn : e.born = n := hr.2.2
  have hee : e = e2 := by
    have hm : e ∈ l1 ++ e2 :: l2 := hp.mem_iff.1 (by rw [hA]; simp)
    simp only [List.map_append, List.map_cons] at hds
    rw [List.nodup_append] at hds
    obtain ⟨d1, d2, d3⟩ := hds
    rcases List.mem_append.1 hm with hm | hm
    · obtain ⟨x, hx, r⟩ := r1.mem.1 e hm
      exact absurd (r.2.2.symm.trans hborn) (d3 x.2.2 (List.mem_map.2 ⟨x, hx, rfl⟩) n (by simp))
    · rcases List.mem_cons.1 hm with h | hm
      · exact h
      · obtain ⟨x, hx, r⟩ := r3.mem.1 e hm
        have : n ∈ es2.map (·.2.2) := List.mem_map.2 ⟨x, hx, by rw [← r.2.2, hborn]⟩
        exact absurd this (List.nodup_cons.1 d2).1
  subst hee
  refine ⟨es1, es2, A, C, l1, l2, hes, hdel, hA, hAl, ?_, r1, r3⟩
  rw [hA] at hp
  have := (List.perm_middle.symm.trans hp).trans List.perm_middle
  exact this.cons_inv

theorem Diff.setObj {b : Nat} (o : Obj) (hB : B ≤ b) (hl : b < w.heap.size) : Diff B b w { w with heap := w.heap.setIfInBounds b o } :=
  ⟨rfl, rfl, rfl, by simp, hB, by simpa using hl, fun k hk _ => by
    show (w.heap.setIfInBounds b o)[k]? = _
    rw [Array.getElem?_setIfInBounds_ne (by omega)]⟩
theorem setObj_self (b : Nat) (o : Obj) (hl : b < w.heap.size) : ({ w with heap := w.heap.setIfInBounds b o } : World).heap[b]? = some o := by
  show (w.heap.setIfInBounds b o)[b]? = _
  rw [Array.getElem?_setIfInBounds_self_of_lt hl]
theorem run_setObj {b : Nat} {o o' : Obj} (hb : w.heap[b]? = some o) (hc : ∀ a t f, o ≠ .cells a t f) : (Go.setObj b o').run P w = .ok () { w with heap := w.heap.setIfInBounds b o' } := by
  unfold Go.setObj Sem.run
  rw [hb]
  cases o <;> first | (exact absurd rfl (hc _ _ _)) | rfl

theorem mu_ok (R : Rel P ft B w0 ρ h nx w) {t kt e : TypeId} (ht : P.underlying t = some (.map kt e)) {s : KSh} (hs : keyShape P kt = some s) {vs : List AV} {v : AV} (hq : sMu s vs h nx = some (v, h', nx')) {us : List Value} (hv : VRelL ρ vs us) :
    ∃ m k x w', us = [m, k, x] ∧ (Instr.mapUpdate t m k x).run P w = .ok () w' ∧ v = .undef ∧ Rel P ft B w0 ρ h' nx' w' := by
  unfold sMu at hq
  split at hq
  · rename_i id k x
    obtain ⟨mv, kv, xv, rfl, hm, hk, hx⟩ := VRelL.three hv
    obtain ⟨g, hρ, rfl⟩ := hm
    split at hq
    · rename_i hsh
      split at hq
      · rename_i es c sh' hg
        split at hq
        · rename_i hse
          have := (shEq_iff _ _).1 hse
          subst this
          obtain ⟨ho, hB⟩ := R.at hg hρ
          have hB' : B ≤ g.b := by rcases hB with hB | hB
                                   · simp [isRo] at hB
                                   · exact hB
          have hbl : g.b < w.heap.size := (R.dom _ _ hρ).2
          obtain ⟨ents, l, hb, hp, he, hd, hds, hlt, hall⟩ := ho
          have hgo : (getObj g.b).run P w = .ok (.map ents c) w := by simp [getObj, Sem.run, hb]
          obtain ⟨f1, f2⟩ := find_map (P := P) (w := w) hs hk hsh hp he hd hall
          have hck := checkKey_ok (P := P) (w := w) hs hk hsh false 9998
          cases hmf : mapFind k es with
          | none =>
            simp only [hmf] at hq
            cases hq
            refine ⟨_, _, _, { w with heap := w.heap.setIfInBounds g.b (.map (ents.push { key := kv, val := xv, born := c }) (c + 1)) }, rfl, ?_, rfl, ?_⟩
            · simp only [Instr.mapUpdate, Sem.run_bind, run_und ht, Result.andThen_ok, hgo, hck, f1 hmf]
              exact run_setObj hb (fun _ _ _ h => by cases h)
            · refine R.upd hg hρ rfl (Diff.setObj _ hB' hbl) ⟨_, ⟨kv, xv, c⟩ :: l, setObj_self _ _ hbl, ?_, ⟨⟨kv, xv, c⟩, l, rfl, ⟨hk, hx, rfl⟩, he⟩, ?_, ?_, ?_, ?_⟩
              · rw [Array.toList_push]
                exact (List.perm_append_singleton _ _).trans (hp.cons _)
              · simp only [List.map_cons, List.nodup_cons]
                exact ⟨fun hm => by obtain ⟨x, hx, e⟩ := List.mem_map.1 hm; exact mapFind_none hmf x hx e, hd⟩
              · simp only [List.map_cons, List.nodup_cons]
                exact ⟨fun hm => by obtain ⟨x, hx, e⟩ := List.mem_map.1 hm; exact absurd (hlt x hx) (by omega), hds⟩
              · intro x hx
                show x.2.2 < c + 1
                rcases List.mem_cons.1 hx with rfl | hx
                · exact Nat.lt_succ_self c
                · have := hlt x hx; omega
              · intro x hx
                rcases List.mem_cons.1 hx with rfl | hx
                · exact hsh
                · exact hall x hx
          | some vn =>
            obtain ⟨v0, n0⟩ := vn
            simp only [hmf] at hq
            cases hq
            obtain ⟨j, e0, h1, h2, h3⟩ := f2 v0 n0 hmf
            obtain ⟨es1, es2, A, C, l1, l2, e1, e2, e3, e4, e5, e6, e7⟩ := map_split hmf hp he hds h2 h3
            obtain ⟨hke, hsb⟩ := shOk_fun hsh h3.1 hk
            have hkt : (Instr.keyThatStays e0.key kv).run P w = .ok kv w := by
              rw [← hke]
              simp [Instr.keyThatStays, hsb]
            have hej : ents[j]? = some e0 := by rw [← Array.getElem?_toList]; exact h2
            refine ⟨_, _, _, { w with heap := w.heap.setIfInBounds g.b (.map (ents.modify j fun e => { e with key := kv, val := xv }) c) }, rfl, ?_, rfl, ?_⟩
            · simp only [Instr.mapUpdate, Sem.run_bind, run_und ht, Result.andThen_ok, hgo, hck, h1, hej, Option.map_some, Option.getD_some, hkt]
              exact run_setObj hb (fun _ _ _ h => by cases h)
            · subst e1
              simp only [List.map_append, List.map_cons] at hd hds
              refine R.upd hg hρ rfl (Diff.setObj _ hB' hbl) ⟨_, { e0 with key := kv, val := xv } :: (l1 ++ l2), setObj_self _ _ hbl, ?_, ⟨_, _, rfl, ⟨hk, hx, h3.2.2⟩, ?_⟩, ?_, ?_, ?_, ?_⟩
              · rw [Array.toList_modify, e3, ← e4, modify_mid]
                exact List.perm_middle.trans (e5.cons _)
              · rw [e2]; exact e6.app e7
              · rw [e2]
                simp only [List.map_cons, List.map_append]
                exact (List.perm_middle.nodup_iff).1 hd
              · rw [e2]
                simp only [List.map_cons, List.map_append]
                exact (List.perm_middle.nodup_iff).1 hds
              · intro x hx
                rw [e2] at hx
                rcases List.mem_cons.1 hx with rfl | hx
                · exact hlt (k, v0, n0) (by simp)
                · exact hlt x (by rcases List.mem_append.1 hx with hx | hx <;> simp [hx])
              · intro x hx
                rw [e2] at hx
                rcases List.mem_cons.1 hx with rfl | hx
                · exact hsh
                · exact hall x (by rcases List.mem_append.1 hx with hx | hx <;> simp [hx])
        · cases hq
      · cases hq
    · cases hq
  · cases hq
theorem del_ok (R : Rel P ft B w0 ρ h nx w) {t kt e : TypeId} (ht : P.underlying t = some (.map kt e)) {s : KSh} (hs : keyShape P kt = some s) (ty : TypeId) {at_ : Array TypeId} (hat : at_[0]? = some t) {vs : List AV} {v : AV} (hq : sDel s vs h nx = some (v, h', nx')) {us : List Value} (hv : VRelL ρ vs us) :
    ∃ m k w', us = [m, k] ∧ (Builtin.delete_ at_ ty #[m, k]).run P w = .ok (.tuple #[]) w' ∧ v = .undef ∧ Rel P ft B w0 ρ h' nx' w' := by
  unfold sDel at hq
  split at hq
  · rename_i id k
    obtain ⟨mv, kv, rfl, hm, hk⟩ := VRelL.two hv
    obtain ⟨g, hρ, rfl⟩ := hm
    split at hq
    · rename_i hsh
      split at hq
      · rename_i es c sh' hg
        split at hq
        · rename_i hse
          have := (shEq_iff _ _).1 hse
          subst this
          cases hq
          obtain ⟨ho, hB⟩ := R.at hg hρ
          have hB' : B ≤ g.b := by rcases hB with hB | hB
                                   · simp [isRo] at hB
                                   · exact hB
          have hbl : g.b < w.heap.size := (R.dom _ _ hρ).2
          obtain ⟨ents, l, hb, hp, he, hd, hds, hlt, hall⟩ := ho
          have hgo : (getObj g.b).run P w = .ok (.map ents c) w := by simp [getObj, Sem.run, hb]
          obtain ⟨f1, f2⟩ := find_map (P := P) (w := w) hs hk hsh hp he hd hall
          have hck := checkKey_ok (P := P) (w := w) hs hk hsh ents.isEmpty 9998
          cases hmf : mapFind k es with
          | none =>
            refine ⟨_, _, { w with heap := w.heap.setIfInBounds g.b (.map ents c) }, rfl, ?_, rfl, ?_⟩
            · simp [Builtin.delete_, hat, run_und ht, hgo, hck, f1 hmf, run_setObj hb (fun _ _ _ h => by cases h)]
            · rw [mapDel_none hmf]
              exact R.upd hg hρ rfl (Diff.setObj _ hB' hbl) ⟨ents, l, setObj_self _ _ hbl, hp, he, hd, hds, hlt, hall⟩
          | some vn =>
            obtain ⟨v0, n0⟩ := vn
            obtain ⟨j, e0, h1, h2, h3⟩ := f2 v0 n0 hmf
            obtain ⟨es1, es2, A, C, l1, l2, e1, e2, e3, e4, e5, e6, e7⟩ := map_split hmf hp he hds h2 h3
            refine ⟨_, _, { w with heap := w.heap.setIfInBounds g.b (.map (ents.eraseIdxIfInBounds j) c) }, rfl, ?_, rfl, ?_⟩
            · simp [Builtin.delete_, hat, run_und ht, hgo, hck, h1, run_setObj hb (fun _ _ _ h => by cases h)]
            · subst e1
              simp only [List.map_append, List.map_cons] at hd hds
              have d1 := (List.perm_middle.nodup_iff).1 hd
              have d2 := (List.perm_middle.nodup_iff).1 hds
              rw [e2]
              refine R.upd hg hρ rfl (Diff.setObj _ hB' hbl) ⟨_, l1 ++ l2, setObj_self _ _ hbl, ?_, e6.app e7, ?_, ?_, ?_, ?_⟩
              · rw [Array.toList_eraseIdxIfInBounds, e3, ← e4, eraseIdx_mid]
                exact e5
              · rw [List.map_append]; exact (List.nodup_cons.1 d1).2
              · rw [List.map_append]; exact (List.nodup_cons.1 d2).2
              · exact fun x hx => hlt x (by rcases List.mem_append.1 hx with hx | hx <;> simp [hx])
              · exact fun x hx => hall x (by rcases List.mem_append.1 hx with hx | hx <;> simp [hx])
        · cases hq
      · cases hq
    · cases hq
  · cases hq
end Go.Md
end
section
/- WHAT MAKES: variables, slices, maps; copies. No condition. -/
namespace Go.Md
open Go.RowKit (Below)
variable {P : Program} {ft : FT} {B : Nat} {w0 w w' : World} {ρ ρ' : Rho} {h h' : T AO} {nx nx' : Nat}

theorem Rel.row (R : Rel P ft B w0 ρ h nx w) {us : List Value} {el : TypeId} {o : AO} {e : Nat} (ho : OFits P ft ρ o e us) :
    Rel P ft B w0 (ρ.upd nx ⟨w.heap.size, 0, e, us.length⟩) (h.set nx o) (nx + 1) (w.alloc (.cells us.toArray el)) :=
  R.new (obj := .cells us.toArray el) (ho _ _ _ _ _ (0, 0) (Rho.le_upd fun id g hh => (R.dom id g hh).1) (heap_alloc_new w _) (by simp) (.inl rfl) (by simp) rfl (fun j hj => by simp))
theorem Rel.le_new (R : Rel P ft B w0 ρ h nx w) (g : Gh) : ρ.le (ρ.upd nx g) := Rho.le_upd fun id g hh => (R.dom id g hh).1

theorem alloc_ok (R : Rel P ft B w0 ρ h nx w) {e : TypeId} {zs : List AV} (hz : zeroCells? P e = some zs) {vs : List AV} {v : AV} (hq : sAlloc zs vs h nx = some (v, h', nx')) (old : Value) : SOk P ft B w0 ρ w (Instr.alloc e true old) v h' nx' := by
  unfold sAlloc at hq
  split at hq
  · unfold newObj at hq
    cases hq
    unfold zeroCells? at hz
    cases hzo : zeroOf P e with
    | none => simp [hzo] at hz
    | some a =>
      simp [hzo] at hz
      subst hz
      obtain ⟨zv, hr, hzr, _⟩ := zeroOf_rel (P := P) (w := w) (ρ := ρ) hzo
      refine ⟨_, _, .pointer (some ⟨w.heap.size, 0, none⟩), R.le_new ⟨w.heap.size, 0, 1, zv.cells.toList.length⟩, by simp [Instr.alloc, hr, newVar, newRow]; rfl, ⟨_, Rho.upd_self _ _, rfl⟩, ?_⟩
      have := R.row (el := e) (OFits.cells hzr.cells 1 false false)
      simpa using this
  · cases hq

theorem box_ok (R : Rel P ft B w0 ρ h nx w) {e : TypeId} {vs : List AV} {v : AV} (hq : sBox vs h nx = some (v, h', nx')) {us : List Value} (hv : VRelL ρ vs us) : ∃ x, us = [x] ∧ SOk P ft B w0 ρ w (Instr.box e x) v h' nx' := by
  unfold sBox at hq
  split at hq
  · rename_i x
    obtain ⟨u, rfl, hx⟩ := VRelL.one hv
    refine ⟨u, rfl, ?_⟩
    split at hq
    · unfold newObj at hq
      cases hq
      refine ⟨_, _, .pointer (some ⟨w.heap.size, 0, none⟩), R.le_new ⟨w.heap.size, 0, 1, u.cells.toList.length⟩, by simp [Instr.box, newVar, newRow]; rfl, ⟨_, Rho.upd_self _ _, rfl⟩, ?_⟩
      have := R.row (el := e) (OFits.cells hx.cells 1 false false)
      simpa using this
    · cases hq
  · cases hq

theorem mkm_ok (R : Rel P ft B w0 ρ h nx w) {t kt e : TypeId} (ht : P.underlying t = some (.map kt e)) {s : KSh} {vs : List AV} {v : AV} (hq : sMkm s vs h nx = some (v, h', nx')) {ev : Operand → Value} {r : Option Operand} (hv : VRelL ρ vs (r.toList.map ev)) : SOk P ft B w0 ρ w (Instr.makeMap t (r.map ev)) v h' nx' := by
  have fin : SOk P ft B w0 ρ w (do pure (.map (some (← Go.newObj (.map #[] 0))))) (.mp nx) (h.set nx (.map [] 0 s)) (nx + 1) := by
    refine ⟨_, _, .map (some w.heap.size), R.le_new ⟨w.heap.size, 0, 0, 0⟩, by simp; rfl, ⟨_, Rho.upd_self _ _, rfl⟩, ?_⟩
    have := R.new (obj := .map #[] 0) (o := .map [] 0 s) (e := 0) (sz := 0) ⟨#[], [], heap_alloc_new w _, by simp, rfl, by simp, by simp, by simp, by simp⟩
    simpa using this
  unfold sMkm newObj at hq
  split at hq
  · cases hq
    cases r with
    | none => simpa [Instr.makeMap] using fin
    | some x => simp [VRelL] at hv
  · cases hq
    cases r with
    | none => obtain ⟨_, _, e, _⟩ := hv; cases e
    | some x =>
      obtain ⟨y, hy, hx⟩ := VRelL.one hv
      simp at hy
      cases hx
      obtain ⟨ρ', w', u, a, b, c, d⟩ := fin
      refine ⟨ρ', w', u, a, ?_, c, d⟩
      simp only [Instr.makeMap, Option.map_some, hy, Sem.run_bind, run_und ht, Result.andThen_ok, asInt, asIntOf, Sem.run_pure]
      simpa using b
  · cases hq

theorem rngm_ok (R : Rel P ft B w0 ρ h nx w) {t kt e : TypeId} (ht : P.underlying t = some (.map kt e)) {vs : List AV} {v : AV} (hq : sRngm vs h nx = some (v, h', nx')) {us : List Value} (hv : VRelL ρ vs us) : ∃ x, us = [x] ∧ SOk P ft B w0 ρ w (Instr.range t x) v h' nx' := by
  unfold sRngm newObj at hq
  split at hq
  · obtain ⟨u, rfl, hx⟩ := VRelL.one hv
    cases hx
    cases hq
    refine ⟨_, rfl, _, _, .pointer (some ⟨w.heap.size, 0, none⟩), R.le_new ⟨w.heap.size, 0, 0, 0⟩, by simp [Instr.range, run_und ht]; rfl, ⟨_, Rho.upd_self _ _, rfl⟩, ?_⟩
    have := R.new (obj := .mapIter none 0 #[] 0) (o := .miter none 0 [] 0) (e := 0) (sz := 0) ⟨rfl, none, heap_alloc_new w _, rfl⟩
    simpa using this
  · rename_i id
    obtain ⟨u, rfl, g, hρ, rfl⟩ := VRelL.one hv
    split at hq
    · rename_i es c sh hg
      cases hq
      obtain ⟨⟨ents, l, hb, _⟩, _⟩ := R.at hg hρ
      have hgo : (getObj g.b).run P w = .ok (.map ents c) w := by simp [getObj, Sem.run, hb]
      refine ⟨_, rfl, _, _, .pointer (some ⟨w.heap.size, 0, none⟩), R.le_new ⟨w.heap.size, 0, 0, 0⟩, by simp [Instr.range, run_und ht, hgo]; rfl, ⟨_, Rho.upd_self _ _, rfl⟩, ?_⟩
      have := R.new (obj := .mapIter (some g.b) c #[] c) (o := .miter (some id) c [] c) (e := 0) (sz := 0) ⟨rfl, some g.b, heap_alloc_new w _, g, R.le_new _ _ _ hρ, rfl⟩
      simpa using this
    · cases hq
  · cases hq

theorem st_ok (R : Rel P ft B w0 ρ h nx w) {t : TypeId} {n : Nat} (hs : szOf P t = some n) {vs : List AV} {v : AV} (hq : sSt n vs h nx = some (v, h', nx')) {us : List Value} (hv : VRelL ρ vs us) :
    ∃ a x w', us = [a, x] ∧ (Instr.storeAt t a x).run P w = .ok () w' ∧ v = .undef ∧ Rel P ft B w0 ρ h' nx' w' := by
  unfold sSt at hq
  split at hq
  · rename_i id off x
    obtain ⟨av, xv, rfl, ha, hx⟩ := VRelL.two hv
    obtain ⟨g, hρ, rfl⟩ := ha
    split at hq
    · rename_i hn
      split at hq
      · rename_i h2 hst
        cases hq
        obtain ⟨h1, R'⟩ := storeCells_ok R hst hρ hx.cells
        have hlen : xv.cells.size = n := by
          rw [← eq_of_beq' hn, ← hx.cells.length]; simp
        refine ⟨_, _, _, rfl, ?_, rfl, R'⟩
        simp only [Instr.storeAt, Instr.sureAddr, Sem.run_bind, Sem.run_pure, Result.andThen_ok, storeVar, run_size hs, hlen, ne_eq, not_true_eq_false, if_false]
        exact h1
      · cases hq
    · cases hq
  · cases hq

theorem repl_length (zs : List AV) : ∀ n, (repl zs n).length = n * zs.length
  | 0 => by simp [repl]
  | n+1 => by simp [repl, repl_length zs n, Nat.add_mul]; omega
theorem madeRel {zs : List AV} {z : Array Value} (hz : VRelL ρ zs z.toList) (hp : 0 < z.size) (n : Nat) : VRelL ρ (repl zs n) ((Array.range (n * z.size)).map (z[· % z.size]!)).toList := by
  have hzl := hz.length
  simp only [Array.length_toList] at hzl
  have hget : ∀ n (i : Nat) v, (repl zs n)[i]? = some v → zs[i % zs.length]? = some v := by
    intro n
    induction n with
    | zero => intro i v h; simp [repl] at h
    | succ n ih =>
      intro i v h
      simp only [repl] at h
      by_cases h1 : i < zs.length
      · rw [List.getElem?_append_left h1] at h
        rw [Nat.mod_eq_of_lt h1]; exact h
      · rw [List.getElem?_append_right (by omega)] at h
        have := ih _ _ h
        rwa [← Nat.mod_eq_sub_mod (by omega)] at this
  refine VRelL.of_get (by simp [repl_length, hzl]) fun i v u hv hu => ?_
  have h1 := hget n i v hv
  obtain ⟨u', h2, h3⟩ := hz.get _ _ h1
  simp only [Array.toList_map, List.getElem?_map, Array.getElem?_toList] at hu
  obtain ⟨k, hk, hu2⟩ := Option.map_eq_some_iff.1 hu
  have hki : k = i := by
    have := (Array.getElem?_eq_some_iff.1 hk).2
    simpa using this.symm
  subst hki
  rw [← hzl] at h2
  have hlt : k % z.size < z.size := Nat.mod_lt _ hp
  rw [getElem!_pos z _ hlt] at hu2
  rw [Array.getElem?_toList, Array.getElem?_eq_getElem hlt] at h2
  cases h2
  rw [← hu2]; exact h3

theorem mks_ok (R : Rel P ft B w0 ρ h nx w) {t e : TypeId} (ht : P.underlying t = some (.slice e)) {b : Bool} {esz : Nat} {zs : List AV} (he : elT P e = some (b, esz, zs)) {vs : List AV} {v : AV} (hq : sMks b esz zs vs h nx = some (v, h', nx')) {us : List Value} (hv : VRelL ρ vs us) :
    ∃ l c, us = [l, c] ∧ SOk P ft B w0 ρ w (Instr.makeSlice t l c) v h' nx' := by
  obtain ⟨⟨E⟩, hby⟩ := elT_spec he
  unfold sMks at hq
  split at hq
  · rename_i k l k' c
    obtain ⟨u1, u2, rfl, h1, h2⟩ := VRelL.two hv
    cases h1; cases h2
    refine ⟨_, _, rfl, ?_⟩
    split at hq
    · rename_i hlc
      have hlc' : l ≤ c := le_of_ble hlc
      split at hq
      · rename_i hc
        have hc' : c ≤ 1048576 := le_of_ble hc
        have hbytes : ((E.i.bytes : Nat) : Int) * (Int.ofNat c) ≤ 281474976710656 := by
          have : E.i.bytes * c ≤ 1048576 * 1048576 := Nat.mul_le_mul E.bytes hc'
          have h2 : ((E.i.bytes * c : Nat) : Int) = (E.i.bytes : Int) * (c : Int) := Int.natCast_mul _ _
          have h3 : Int.ofNat c = (c : Int) := rfl
          rw [h3]; omega
        have hrun := run_make (P := P) w t e E.i E.z ht E.hi E.hz k k' (Int.ofNat l) (Int.ofNat c) (Int.natCast_nonneg l) (by show (l : Int) ≤ (c : Int); omega) hbytes (by show (c : Int) ≤ _; omega)
        have hzsz : E.z.cells.size = esz := E.zsize
        have hp : 0 < E.z.cells.size := by rw [hzsz]; exact E.pos
        have hmr := madeRel (E.zrel ρ) hp c
        have hmc : madeCells E.z.cells ((Int.ofNat c).toNat * E.i.size) = ((Array.range (c * E.z.cells.size)).map (E.z.cells[· % E.z.cells.size]!)) := by
          simp [madeCells, E.size, hzsz]
        have hrl : (repl zs c).length = c * esz := by rw [repl_length, ← (E.zrel ρ).length]; simp [hzsz]
        rw [hmc] at hrun
        split at hq
        · obtain ⟨he1, hz1, _⟩ := hby rfl
          subst he1; subst hz1
          unfold newObj at hq
          cases hq
          refine ⟨_, _, _, R.le_new ⟨w.heap.size, 0, 1, ((Array.range (c * E.z.cells.size)).map (E.z.cells[· % E.z.cells.size]!)).toList.length⟩, hrun, ⟨_, _, Rho.upd_self _ _, rfl, hlc', rfl⟩, ?_⟩
          have hf : OFits P ft ρ (.bytes 0 c false) 1 ((Array.range (c * E.z.cells.size)).map (E.z.cells[· % E.z.cells.size]!)).toList := by
            have : ((Array.range (c * E.z.cells.size)).map (E.z.cells[· % E.z.cells.size]!)).toList = byteVals 0 c := by
              have hl := hmr.length
              rw [hrl] at hl
              apply List.ext_getElem?
              intro i
              by_cases hi : i < c
              · rw [byteVals_get _ _ _ hi]
                have hlt : i < (repl [AV.int IntKind.u8 (Int.ofNat 0)] c).length := by rw [hrl]; omega
                obtain ⟨u, hu1, hu2⟩ := hmr.get i _ (List.getElem?_eq_getElem hlt)
                have hz0 : ∀ n (i : Nat) v, (repl [AV.int IntKind.u8 (Int.ofNat 0)] n)[i]? = some v → v = .int .u8 (Int.ofNat 0) := by
                  intro n
                  induction n with
                  | zero => intro i v h; simp [repl] at h
                  | succ n ih =>
                    intro i v h
                    cases i with
                    | zero => simp [repl] at h; exact h.symm
                    | succ i => simp [repl] at h; exact ih i v h
                rw [hz0 c i _ (List.getElem?_eq_getElem hlt)] at hu2
                rw [hu1, hu2]
                simp [byt_def]
              · rw [List.getElem?_eq_none (by rw [hl]; omega), List.getElem?_eq_none (by rw [byteVals_length]; omega)]
            rw [this]
            exact OFits.bytes 0 c false
          exact R.row (el := e) hf
        · unfold newObj at hq
          cases hq
          refine ⟨_, _, _, R.le_new ⟨w.heap.size, 0, esz, ((Array.range (c * E.z.cells.size)).map (E.z.cells[· % E.z.cells.size]!)).toList.length⟩, hrun, ⟨_, _, Rho.upd_self _ _, rfl, hlc', rfl⟩, ?_⟩
          have := R.row (el := e) (OFits.cells hmr esz false false)
          rw [hrl] at this
          exact this
      · cases hq
    · cases hq
  · cases hq
end Go.Md
end
section
/- SLICES' LITERALS, COPIES, TEXTS AS BYTES. No condition. -/
namespace Go.Md
open Go.RowKit (Below)
variable {P : Program} {ft : FT} {B : Nat} {w0 w w' : World} {ρ ρ' : Rho} {h h' : T AO} {nx nx' : Nat}

theorem bytesOf_pack {l : List AV} {us : List Value} (hv : VRelL ρ l us) {bits : Nat} (hp : packAV l = some bits) : us = byteVals bits l.length := by
  obtain ⟨h1, h2⟩ := packAV_spec hp
  apply List.ext_getElem?
  intro i
  have hl := hv.length
  by_cases hi : i < l.length
  · obtain ⟨u, a, b⟩ := hv.get i _ (List.getElem?_eq_getElem hi)
    rw [h2 i _ (List.getElem?_eq_getElem hi)] at b
    rw [a, byteVals_get _ _ _ hi, b]
    rfl
  · rw [List.getElem?_eq_none (by omega), List.getElem?_eq_none (by rw [byteVals_length]; omega)]

theorem fillParts_len : ∀ {ps : List (Nat × Nat)} {vs z l : List AV}, fillParts z ps vs = some l → l.length = z.length
  | [], [], z, l, h => by cases h; rfl
  | [], _ :: _, z, l, h => by simp [fillParts] at h
  | _ :: _, [], z, l, h => by simp [fillParts] at h
  | (off, n) :: ps, v :: vs, z, l, h => by
    simp only [fillParts] at h
    split at h
    · rename_i hn
      split at h
      · rename_i hle
        rw [fillParts_len h]
        have h1 := eq_of_beq' hn
        have h2 : off + n ≤ z.length := le_of_ble hle
        have h3 : Nat.add off n = off + n := rfl
        simp [h3]
        omega
      · cases h
    · cases h

theorem bsl_ok (R : Rel P ft B w0 ρ h nx w) {t e : TypeId} (ht : P.underlying t = some (.slice e)) {b : Bool} {esz n : Nat} {zs : List AV} (he : elT P e = some (b, esz, zs)) (hsm : n * esz ≤ 2 ^ 24) (parts : List (Nat × Operand)) (ev : Operand → Value)
    {vs : List AV} {v : AV} (hq : sBsl b n esz zs (parts.map (·.1)) vs h nx = some (v, h', nx')) (hv : VRelL ρ vs ((parts.map (·.2)).map ev)) :
    SOk P ft B w0 ρ w (Instr.buildSlice t n (parts.toArray.map fun (i, x) => (i, ev x))) v h' nx' := by
  obtain ⟨⟨E⟩, hby⟩ := elT_spec he
  unfold sBsl at hq
  split at hq
  · rename_i l hl
    have hzsz : E.z.cells.size = esz := E.zsize
    have hp : 0 < E.z.cells.size := by rw [hzsz]; exact E.pos
    have hmr := madeRel (E.zrel ρ) hp n
    rw [hzsz] at hmr
    have hzip : (parts.toArray.map fun (i, x) => (i, ev x)).toList = (parts.map (·.1)).zip ((parts.map (·.2)).map ev) := by
      simp only [Array.toList_map]
      clear hq hl hv
      induction parts with
      | nil => rfl
      | cons p parts ih => simp [List.zip_cons_cons] at ih ⊢; exact ih
    obtain ⟨L, hL, hLr⟩ := fill_ok (ρ := ρ) (fun i => some (i * esz, esz)) _ _ _ _ hl _ _ (parts.map (·.1)) hmr hv (by simp) (fun j i p hj hp => by
      rw [List.getElem?_map, hj] at hp
      simpa using hp)
    have hrun : (Instr.buildSlice t n (parts.toArray.map fun (i, x) => (i, ev x))).run P w = .ok (.slice (some ⟨w.heap.size, 0, none⟩) n n) (w.alloc (.cells L e)) := by
      by_cases h0 : n * E.i.size = 0
      · have hn0 : n = 0 := by
          rcases Nat.mul_eq_zero.1 h0 with h | h
          · exact h
          · rw [E.size] at h; have := E.pos; omega
        subst hn0
        have hsm' : ¬ (2 ^ 24 < 0) := by omega
        have hL' : Instr.fill (fun i => some (i * E.i.size, E.i.size)) #[] (List.map (fun x => (x.fst, ev x.snd)) parts) = some L := by
          have hz2 : List.map (fun x : Nat × Operand => (x.fst, ev x.snd)) parts = (parts.map (·.1)).zip ((parts.map (·.2)).map ev) := by rw [← hzip]; simp
          rw [hz2, E.size]
          simpa [Array.range_zero'] using hL
        simp [Instr.buildSlice, run_und ht, run_size (szOf_some' E.hi), newRow, Array.range_zero', hL']
      · refine run_buildSlice w t e n _ L E.i E.z ht E.hi E.hz (by rw [E.size]; omega) h0 ?_
        rw [hzip, E.size, hzsz]
        exact hL
    have hll : l.length = n * esz := by rw [fillParts_len hl, repl_length, ← (E.zrel ρ).length]; simp [hzsz]
    split at hq
    · obtain ⟨he1, hz1, _⟩ := hby rfl
      subst he1
      split at hq
      · rename_i bits hbits
        unfold newObj at hq
        cases hq
        refine ⟨_, _, _, R.le_new ⟨w.heap.size, 0, 1, L.toList.length⟩, hrun, ⟨_, _, Rho.upd_self _ _, rfl, Nat.le_refl _, rfl⟩, ?_⟩
        have hLb := bytesOf_pack hLr hbits
        have hf : OFits P ft ρ (.bytes bits n false) 1 L.toList := by
          rw [hLb, hll, Nat.mul_one]; exact OFits.bytes bits n false
        exact R.row (el := e) hf
      · cases hq
    · unfold newObj at hq
      cases hq
      refine ⟨_, _, _, R.le_new ⟨w.heap.size, 0, esz, L.toList.length⟩, hrun, ⟨_, _, Rho.upd_self _ _, rfl, Nat.le_refl _, rfl⟩, ?_⟩
      exact R.row (el := e) (OFits.cells hLr esz false false)
  · cases hq

theorem freeze_heap (w : World) (b n k : Nat) (c : Array Value) (el : TypeId) (lo hi : Nat) (hb : w.heap[b]? = some (.cells c el (lo, hi))) : (w.freeze ⟨b, n, none⟩ 1).heap[b]? = some (.cells c el (if lo == hi then (n, n + 1) else (min lo n, max hi (n + 1)))) := by
  simp [World.freeze, Array.getElem?_modify, hb]
theorem Diff.freeze {b n : Nat} (d : Diff B b w w') : Diff B b w (w'.freeze ⟨b, n, none⟩ 1) := by
  unfold World.freeze
  rw [if_neg (by omega)]
  refine ⟨d.os, d.tape, d.output, by simpa using d.size, d.low, by simpa using d.lt, fun k hk hl => ?_⟩
  have e : ∀ f, (w'.heap.modify b f)[k]? = w'.heap[k]? := fun f => by rw [Array.getElem?_modify, if_neg (fun e => hk e.symm)]
  exact (e _).trans (d.other k hk hl)

theorem Rel.congr (R : Rel P ft B w0 ρ h nx w) (he : ∀ i, h'.get i = h.get i) : Rel P ft B w0 ρ h' nx w :=
  ⟨fun i o hi => R.obj i o (by rw [← he]; exact hi), fun i j oi oj gi gj hi hj => R.inj i j oi oj gi gj (by rw [← he]; exact hi) (by rw [← he]; exact hj), R.dom, R.glob, R.base, R.below⟩

theorem s2b_ok (R : Rel P ft B w0 ρ h nx w) {s d e : TypeId} (hs : P.underlying s = some .string) (hd : P.underlying d = some (.slice e)) (he : isU8 P e = true) {vs : List AV} {v : AV} (hq : sS2b vs h nx = some (v, h', nx')) {us : List Value} (hv : VRelL ρ vs us) :
    ∃ x, us = [x] ∧ SOk P ft B w0 ρ w (convert s d x) v h' nx' := by
  have hue : P.underlying e = some (.int .u8) := by
    unfold isU8 at he
    split at he <;> first | assumption | cases he
  unfold sS2b at hq
  split at hq
  · rename_i bits n
    obtain ⟨u, rfl, hb, rfl⟩ := VRelL.one hv
    unfold newObj at hq
    cases hq
    refine ⟨_, rfl, ?_⟩
    have hcap := grownCap_ge w n 0 e
    have hsz : (⟨(unpackN bits n).toArray⟩ : ByteArray).size = n := by simp [ByteArray.size, unpackN_length]
    let cells : Array Value := (unpackN bits n).toArray.map (fun b : UInt8 => Value.int .u8 b.toNat) ++ Array.replicate (grownCap w n 0 e - n) (.int .u8 0)
    have hcl : cells.size = grownCap w n 0 e := by simp [cells, unpackN_length]; omega
    have hb0 := heap_alloc_new w.drew (.cells cells e)
    simp only [World.size_drew] at hb0
    have hsh : (w.drew.alloc (.cells cells e)).shape? w.heap.size = some (e, grownCap w n 0 e) := by
      simp only [World.shape?, hb0, hcl]
    have hrun : (convert s d (.string ⟨(unpackN bits n).toArray⟩)).run P w = .ok (.slice (some ⟨w.heap.size, 0, none⟩) n (grownCap w n 0 e)) ((w.drew.alloc (.cells cells e)).freeze ⟨w.heap.size, grownCap w n 0 e, none⟩ 1) := by
      have e1 : (convert s d (.string ⟨(unpackN bits n).toArray⟩)).run P w = (Conv.stringToBytes e ⟨(unpackN bits n).toArray⟩).run P w := by simp [convert, run_und hs, run_und hd, run_und hue]
      have e2 : (newRow e cells).run P w.drew = .ok ⟨w.heap.size, 0, none⟩ (w.drew.alloc (.cells cells e)) := by simp [newRow]
      have e3 : (markStringish ⟨w.heap.size, 0, none⟩).run P (w.drew.alloc (.cells cells e)) = .ok () ((w.drew.alloc (.cells cells e)).freeze ⟨w.heap.size, grownCap w n 0 e, none⟩ 1) := by
        simp [markStringish, hsh]
      have e4 : (choose (.appendCap n 0 e)).run P w = .ok (grownCap w n 0 e) w.drew := by simp [Question.forced, grownCap]
      rw [e1]
      simp only [Conv.stringToBytes, hsz, Sem.run_bind, e4, Result.andThen_ok]
      have e5 : cells = Array.map (fun b : UInt8 => Value.int .u8 b.toNat) (unpackN bits n).toArray ++ Array.replicate (grownCap w n 0 e - n) (.int .u8 0) := rfl
      rw [← e5, e2]
      simp [e3]
    refine ⟨_, _, _, R.le_new ⟨w.heap.size, 0, 1, grownCap w n 0 e⟩, hrun, ⟨_, _, Rho.upd_self _ _, rfl, hcap, ?_⟩, ?_⟩
    · show 0 + 0 + grownCap w n 0 e * 1 ≤ grownCap w n 0 e
      omega
    · have hfz := freeze_heap _ w.heap.size (grownCap w n 0 e) 0 cells e 0 0 hb0
      have hD : Diff B w.heap.size w.drew ((w.drew.alloc (.cells cells e)).freeze ⟨w.heap.size, grownCap w n 0 e, none⟩ 1) := Diff.freeze (Diff.alloc (w := w.drew) R.base _)
      refine R.drew.put (g := ⟨w.heap.size, 0, 1, grownCap w n 0 e⟩) hD (fun i _ gi _ hi => by have := (R.dom i gi hi).2; show gi.b ≠ w.heap.size; omega) ⟨cells, e, _, hfz, hcl, .inr (by rw [hcl]; exact Nat.le_refl _), ?_, rfl, fun j hj => ?_⟩
      · show 0 + n ≤ grownCap w n 0 e
        omega
      · show cells[0 + j]? = _
        rw [Nat.zero_add]
        have hj2 : j < (unpackN bits n).length := by rw [unpackN_length]; exact hj
        rw [Array.getElem?_append_left (by simpa using hj2)]
        have := byt_lt bits j
        simp [unpackN_get, hj, Nat.mod_eq_of_lt this]
  · cases hq

theorem mstr_ok (R : Rel P ft B w0 ρ h nx w) {s e : TypeId} (hs : P.underlying s = some (.slice e)) (he : isU8 P e = true) {vs : List AV} {v : AV} (hq : sMstr vs h nx = some (v, h', nx')) {us : List Value} (hv : VRelL ρ vs us) :
    ∃ x, us = [x] ∧ SOk P ft B w0 ρ w (convert s s x) v h' nx' := by
  have hue : P.underlying e = some (.int .u8) := by
    unfold isU8 at he
    split at he <;> first | assumption | cases he
  unfold sMstr at hq
  split at hq
  · rename_i id off len cap
    obtain ⟨u, rfl, g, c, hρ, rfl, hlc, hcap⟩ := VRelL.one hv
    refine ⟨_, rfl, ?_⟩
    split at hq
    · rename_i bits m o hg
      cases hq
      obtain ⟨⟨arr, el, ⟨lo, hi⟩, hb, hsz, hfz, hd, hge, hc⟩, hB⟩ := R.at hg hρ
      have hB' : B ≤ g.b := by rcases hB with hB | hB
                               · cases hB
                               · exact hB
      have hbl : g.b < w.heap.size := (R.dom _ _ hρ).2
      have hsh : w.shape? g.b = some (el, arr.size) := by simp only [World.shape?, hb]
      have e3 : (markStringish ⟨g.b, g.d + off, none⟩).run P w = .ok () (w.freeze ⟨g.b, arr.size, none⟩ 1) := by simp [markStringish, hsh]
      refine ⟨ρ, _, _, Rho.le.refl ρ, by simp [convert, run_und hs, run_und hue, e3]; rfl, ⟨g, c, hρ, rfl, hlc, hcap⟩, ?_⟩
      have hf := freeze_heap w g.b arr.size 0 arr el lo hi hb
      have hDw : Diff B g.b w w := ⟨rfl, rfl, rfl, Nat.le_refl _, hB', hbl, fun _ _ _ => rfl⟩
      have hR := R.upd (o' := .bytes bits m o) hg hρ rfl (Diff.freeze (n := arr.size) hDw) ⟨arr, el, _, hf, hsz, ?_, hd, hge, hc⟩
      · exact hR.congr fun i => by
          rw [T.get_set]
          split
          · rename_i e; subst e; exact hg
          · rfl
      · rcases hfz with hfz | hfz
        · cases hfz; right; simp
        · right
          have hfz' : arr.size ≤ lo := hfz
          split
          · exact Nat.le_refl _
          · show arr.size ≤ min lo arr.size
            omega
    · cases hq
  · cases hq
end Go.Md
end
