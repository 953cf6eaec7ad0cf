import Derived.Test.YtgpdolhclinjdaaGreatDoorM4
set_option linter.unusedVariables false
set_option linter.unusedSimpArgs false
set_option linter.unusedSectionVars false
section
/- THE QUIET OPERATIONS, one by one: cuts of texts and arrays, maps. No condition. -/
namespace Go.Md
variable {P : Program} {ft : FT} {B : Nat} {w0 w : World} {ρ : Rho} {h : T AO} {nx : Nat}

theorem extract_list (l : List UInt8) (a b : Nat) : (⟨l.toArray⟩ : ByteArray).extract a b = ⟨((l.drop a).take (b - a)).toArray⟩ := by
  apply ByteArray.ext
  rw [ByteArray.data_extract]
  simp [List.take_drop]

theorem sls_ok {lo hi : Option Operand} {ev : Operand → Value} {vs : List AV} {v : AV} (hq : qSls lo.isSome hi.isSome vs h = some v) {x : Operand} (hv : VRelL ρ vs ((x :: (lo.toList ++ hi.toList)).map ev)) {t : TypeId} (ht : P.underlying t = some .string) :
    ∃ r, (Instr.slice t (ev x) (lo.map ev) (hi.map ev) none).run P w = .ok r w ∧ VRel ρ v r := by
  unfold qSls at hq
  split at hq
  · rename_i bits n r
    obtain ⟨y, s, e, hx, hrest⟩ := hv
    cases e
    obtain ⟨hlt, hxe⟩ := hx
    obtain ⟨h1, h2⟩ := optHd_ok hrest
    have h2' : VRelL ρ (optHd lo.isSome r).2 ((hi.toList ++ []).map ev) := by simpa using h2
    obtain ⟨h3, h4⟩ := optHd_ok h2'
    simp only at hq
    split at hq
    · rename_i hnil
      split at hq
      · rename_i hh hbh
        split at hq
        · rename_i l hbl
          cases hq
          have hhn := bound_le hbh (Nat.le_refl _)
          have hle : l ≤ hh := bound_le hbl (Nat.zero_le _)
          refine ⟨.string ((⟨(unpackN bits n).toArray⟩ : ByteArray).extract l hh), ?_, subB_lt _ _ _, ?_⟩
          · have hsz : (⟨(unpackN bits n).toArray⟩ : ByteArray).size = n := by simp [ByteArray.size, unpackN_length]
            have := run_bounds (P := P) (w := w) (isS := false) (mx := none) (cap := n) (len := n) (fun c => rfl) (fun c => bound_ok' h3 hbh c) (fun c => bound_ok' h1 hbl c) (by simp)
            rw [hxe]
            simp [Instr.slice, run_und ht, hsz, this]
          · rw [extract_list, unpackN_sub (by omega)]
            rfl
        · cases hq
      · cases hq
    · cases hq
  · cases hq

theorem sla_ok {lo hi : Option Operand} {ev : Operand → Value} {vs : List AV} {v : AV} {n esz : Nat} (hq : qSla n esz lo.isSome hi.isSome vs h = some v) {x : Operand} (hv : VRelL ρ vs ((x :: (lo.toList ++ hi.toList)).map ev)) {t e : TypeId}
    (ht : P.underlying t = some (.array n e)) (he : szOf P e = some esz) : ∃ r, (Instr.sliceAt t (ev x) (lo.map ev) (hi.map ev) none).run P w = .ok r w ∧ VRel ρ v r := by
  unfold qSla at hq
  split at hq
  · rename_i id off r
    obtain ⟨y, s, e, hx, hrest⟩ := hv
    cases e
    obtain ⟨g, hρ, hxe⟩ := hx
    obtain ⟨h1, h2⟩ := optHd_ok hrest
    have h2' : VRelL ρ (optHd lo.isSome r).2 ((hi.toList ++ []).map ev) := by simpa using h2
    obtain ⟨h3, h4⟩ := optHd_ok h2'
    simp only at hq
    split at hq
    · split at hq
      · rename_i hh hbh
        split at hq
        · rename_i l hbl
          cases hq
          have hhn := bound_le hbh (Nat.le_refl _)
          have hle : l ≤ hh := bound_le hbl (Nat.zero_le _)
          have := run_bounds (P := P) (w := w) (isS := false) (mx := none) (cap := n) (len := n) (fun c => rfl) (fun c => bound_ok' h3 hbh c) (fun c => bound_ok' h1 hbl c) (by simp)
          refine ⟨_, by rw [hxe]; simp [Instr.sliceAt, run_und ht, Instr.sureAddr, this, run_size he]; rfl, ?_⟩
          unfold cutAt
          cases hml : Nat.beq n l with
          | true =>
            have := eq_of_beq' hml
            subst this
            rw [if_pos rfl]
            exact ⟨g, _, hρ, rfl, subLe (by omega), rfl⟩
          | false =>
            have := ne_of_beq' hml
            rw [if_neg this]
            refine ⟨g, n - l, hρ, ?_, subLe (by omega), rfl⟩
            rw [add_addr, Nat.add_assoc]; rfl
        · cases hq
      · cases hq
    · cases hq
  · cases hq

/-! maps: a key that has its map's shape -/
theorem keyShape_one {t : TypeId} {s : KSh} (hs : keyShape P t = some s) : (∃ k, s = .one k ∧ ksT P t = some k) ∨ (∃ l, s = .agg l ∧ flatStruct P t = some l) := by
  unfold keyShape at hs
  split at hs
  · rename_i k hk; cases hs; exact .inl ⟨k, rfl, hk⟩
  · split at hs
    · cases hf : flatStruct P t with
      | none => simp [hf] at hs
      | some l => simp [hf] at hs; exact .inr ⟨l, hs.symm, rfl⟩
    · cases hs


theorem shOk_one {k : KS} {v : AV} (h : shOk (.one k) v = true) : ksOk k v = true := h
theorem shOk_agg {l : List KS} {v : AV} (h : shOk (.agg l) v = true) : ∃ m, v = .agg m ∧ ksOkL l m = true := by
  cases v <;> simp [shOk] at h
  exact ⟨_, rfl, h⟩

theorem equal_key {t : TypeId} {s : KSh} (hs : keyShape P t = some s) {x y : AV} {u v : Value} (hx : VRel ρ x u) (hy : VRel ρ y v) (ox : shOk s x = true) (oy : shOk s y = true) :
    (Op.equal t u v).run P w = .ok (AV.beq x y) w := by
  rw [equal_eq]
  rcases keyShape_one hs with ⟨k, rfl, hk⟩ | ⟨l, rfl, hf⟩
  · exact equalIn_cell hk hx hy ox oy 9999
  · obtain ⟨m, rfl, hm⟩ := shOk_agg ox
    obtain ⟨m', rfl, hm'⟩ := shOk_agg oy
    obtain ⟨a, rfl, ra⟩ := hx
    obtain ⟨b, rfl, rb⟩ := hy
    rw [show AV.beq (.agg m) (.agg m') = AV.beqL m m' from rfl]
    exact equalIn_struct hf hm hm' ra rb 9998

theorem checkKey_ok {t : TypeId} {s : KSh} (hs : keyShape P t = some s) {x : AV} {u : Value} (hx : VRel ρ x u) (ox : shOk s x = true) (emp : Bool) (d : Nat) :
    (Instr.checkKey emp (d + 2) t u).run P w = .ok () w := by
  have one : ∀ (t : TypeId) (k : KS) (u : Value) (d : Nat), ksT P t = some k → (Instr.checkKey emp (d + 1) t u).run P w = .ok () w := by
    intro t k u d hk
    have hu := (ksT_und hk).2
    cases k <;> simp at hu <;> simp [Instr.checkKey, run_und hu]
  rcases keyShape_one hs with ⟨k, rfl, hk⟩ | ⟨l, rfl, hf⟩
  · exact one t k u _ hk
  · obtain ⟨m, rfl, hm⟩ := shOk_agg ox
    obtain ⟨a, rfl, ra⟩ := hx
    obtain ⟨fs, hu, _, _, hl⟩ := flatStruct_spec hf
    unfold Instr.checkKey
    simp only [Sem.run_bind, run_und hu, Result.andThen_ok]
    rw [← Array.forIn_toList]
    have key : ∀ (F : List Field) (n : Nat) (l : List KS), flatFields P n F = some l → ∀ (m : List AV) (a : List Value), ksOkL l m = true → VRelL ρ m a → ∀ (A : Array Value), (∀ i v, a[i]? = some v → A[n + i]? = some v) →
        (forIn F PUnit.unit (fun f (_ : PUnit) => (do if f.name ≠ "_" then Instr.checkKey emp (d + 1) f.type (← part f.type A f.offset)
                                                      pure (ForInStep.yield PUnit.unit) : Sem (ForInStep PUnit)))).run P w = .ok PUnit.unit w := by
      intro F
      induction F with
      | nil => intro n l _ m a _ _ A _; simp
      | cons f F ih =>
        intro n l hl m a hm ra A hA
        simp only [flatFields] at hl
        split at hl
        · rename_i hc
          split at hl
          · rename_i k l' hk hl'
            cases hl
            cases m with
            | nil => simp [ksOkL] at hm
            | cons x0 m =>
            obtain ⟨u0, a', rfl, hu0, ra'⟩ := ra
            simp only [Bool.and_eq_true, beq_iff_eq, bne_iff_ne] at hc
            obtain ⟨ho, hn⟩ := hc
            have hm1 : ksOkL l' m = true := by simp only [ksOkL] at hm; split at hm <;> first | assumption | cases hm
            have hA0 : A[f.offset]? = some u0 := by rw [ho]; exact hA 0 u0 rfl
            simp only [List.forIn_cons, ne_eq, hn, not_false_eq_true, if_true, Sem.run_bind, run_part_cell hk hA0, one f.type k _ d hk, Result.andThen_ok, Sem.run_pure]
            exact ih (n + 1) l' hl' m a' hm1 ra' A (fun i w hw => by rw [Nat.add_right_comm, Nat.add_assoc]; exact hA (i + 1) w (by simpa using hw))
          · cases hl
        · cases hl
    have := key fs.toList 0 l hl m a hm ra a.toArray (fun i v hv => by simpa using hv)
    simp at this
    simp [this]

/-- the search for a key -/
def KRel (ρ : Rho) (s : KSh) (e : MapEntry) (a : AV) : Prop := VRel ρ a e.key ∧ shOk s a = true
theorem findAsking_ok {t : TypeId} {s : KSh} (hs : keyShape P t = some s) {k : AV} {u : Value} (hk : VRel ρ k u) (ok : shOk s k = true) : ∀ (L : List MapEntry) (i : Nat), (∀ e ∈ L, ∃ a, KRel ρ s e a) →
    ((Instr.findAsking t u L i).run P w = .ok none w ∧ ∀ e ∈ L, ∀ a, KRel ρ s e a → a ≠ k) ∨
    ∃ j e, (Instr.findAsking t u L i).run P w = .ok (some (i + j, e.val)) w ∧ L[j]? = some e ∧ KRel ρ s e k
  | [], i, _ => .inl ⟨by simp [Instr.findAsking], by simp⟩
  | e :: L, i, hall => by
    obtain ⟨a, ha, oa⟩ := hall e (by simp)
    have he := equal_key (P := P) (w := w) hs hk ha ok oa
    cases hb : AV.beq k a with
    | true =>
      have := (AV.beq_iff _ _).1 hb
      subst this
      exact .inr ⟨0, e, by simp [Instr.findAsking, he, hb], rfl, ha, oa⟩
    | false =>
      rcases findAsking_ok hs hk ok L (i + 1) (fun y hy => hall y (by simp [hy])) with ⟨h1, h2⟩ | ⟨j, e', h1, h2, h3⟩
      · refine .inl ⟨by simp [Instr.findAsking, he, hb, h1], fun y hy a' ha' => ?_⟩
        rcases List.mem_cons.1 hy with rfl | hy
        · intro e0
          subst e0
          have := equal_key (P := P) (w := w) hs hk ha'.1 ok ha'.2
          rw [he] at this
          have h3 := (AV.beq_iff a' a').2 rfl
          simp only [Result.ok.injEq, and_true] at this
          rw [hb, h3] at this; cases this
        · exact h2 y hy a' ha'
      · exact .inr ⟨j + 1, e', by simp [Instr.findAsking, he, hb, h1, Nat.add_assoc, Nat.add_comm 1 j], by simpa using h2, h3⟩

theorem sameNow_ok {t : TypeId} {k : KS} (hk : ksT P t = some k) {d : TypeDesc} (hd : P.underlying t = some d) {x y : AV} {u v : Value} (hx : VRel ρ x u) (hy : VRel ρ y v) (ox : ksOk k x = true) (oy : ksOk k y = true) : Instr.sameNow d u v = some (AV.beq x y) := by
  have hu := (ksT_und hk).2
  cases k with
  | int k =>
    obtain ⟨n, rfl⟩ := ksOk_int ox
    obtain ⟨m, rfl⟩ := ksOk_int oy
    cases hx; cases hy
    rw [hd] at hu; cases hu
    have h1 := (kEq_iff k k).2 rfl
    simp only [Instr.sameNow, if_true, AV.beq, brec_and, h1, Bool.true_and, iEq_eq]
  | str =>
    obtain ⟨a, n, rfl⟩ := ksOk_str ox
    obtain ⟨b, m, rfl⟩ := ksOk_str oy
    obtain ⟨ha, rfl⟩ := hx
    obtain ⟨hb, rfl⟩ := hy
    rw [hd] at hu; cases hu
    simp only [Instr.sameNow, AV.beq, brec_and]
    have e1 : (Nat.beq a b && Nat.beq n m) = sEq a n b m := by unfold sEq; cases Nat.beq a b <;> rfl
    rw [e1, strEq_eq ha hb, beq_toListBytes, str_list, str_list]
  | bool =>
    obtain ⟨a, rfl⟩ := ksOk_bool ox
    obtain ⟨b, rfl⟩ := ksOk_bool oy
    cases hx; cases hy
    rw [hd] at hu; cases hu
    simp only [Instr.sameNow, AV.beq, brec_eq]

theorem findNow_ok {t : TypeId} {k0 : KS} (ht : ksT P t = some k0) {d : TypeDesc} (hd : P.underlying t = some d) {k : AV} {u : Value} (hk : VRel ρ k u) (ok : ksOk k0 k = true) : ∀ (L : List MapEntry) (i : Nat), (∀ e ∈ L, ∃ a, KRel ρ (.one k0) e a) →
    (Instr.findNow d u L i = some none ∧ ∀ e ∈ L, ∀ a, KRel ρ (.one k0) e a → a ≠ k) ∨
    ∃ j e, Instr.findNow d u L i = some (some (i + j, e.val)) ∧ L[j]? = some e ∧ KRel ρ (.one k0) e k
  | [], i, _ => .inl ⟨rfl, by simp⟩
  | e :: L, i, hall => by
    obtain ⟨a, ha, oa⟩ := hall e (by simp)
    have he := sameNow_ok ht hd hk ha ok oa
    cases hb : AV.beq k a with
    | true =>
      have := (AV.beq_iff _ _).1 hb
      subst this
      exact .inr ⟨0, e, by simp [Instr.findNow, he, hb], rfl, ha, oa⟩
    | false =>
      rcases findNow_ok ht hd hk ok L (i + 1) (fun y hy => hall y (by simp [hy])) with ⟨h1, h2⟩ | ⟨j, e', h1, h2, h3⟩
      · refine .inl ⟨by simp [Instr.findNow, he, hb, h1], fun y hy a' ha' => ?_⟩
        rcases List.mem_cons.1 hy with rfl | hy
        · intro e0
          subst e0
          have := sameNow_ok ht hd hk ha'.1 ok ha'.2
          rw [he] at this
          have h3 := (AV.beq_iff a' a').2 rfl
          simp only [Option.some.injEq] at this
          rw [hb, h3] at this; cases this
        · exact h2 y hy a' ha'
      · exact .inr ⟨j + 1, e', by simp [Instr.findNow, he, hb, h1, Nat.add_assoc, Nat.add_comm 1 j], by simpa using h2, h3⟩

theorem findKey_ok {t : TypeId} {s : KSh} (hs : keyShape P t = some s) {k : AV} {u : Value} (hk : VRel ρ k u) (ok : shOk s k = true) (L : List MapEntry) (hall : ∀ e ∈ L, ∃ a, KRel ρ s e a) :
    ((Instr.findKey t u L).run P w = .ok none w ∧ ∀ e ∈ L, ∀ a, KRel ρ s e a → a ≠ k) ∨
    ∃ j e, (Instr.findKey t u L).run P w = .ok (some (j, e.val)) w ∧ L[j]? = some e ∧ KRel ρ s e k := by
  unfold Instr.findKey
  rcases keyShape_one hs with ⟨k0, rfl, hk0⟩ | ⟨l, rfl, hf⟩
  · have hu := (ksT_und hk0).2
    have : ∃ d, P.underlying t = some d := by cases k0 <;> exact ⟨_, hu⟩
    obtain ⟨d, hd⟩ := this
    rcases findNow_ok hk0 hd hk ok L 0 hall with ⟨h1, h2⟩ | ⟨j, e, h1, h2, h3⟩
    · exact .inl ⟨by simp [run_und hd, h1], h2⟩
    · exact .inr ⟨j, e, by simp [run_und hd, h1], h2, h3⟩
  · obtain ⟨fs, hu, _, _, _⟩ := flatStruct_spec hf
    cases L with
    | nil => exact .inl ⟨by simp [run_und hu, Instr.findNow], by simp⟩
    | cons e L =>
      have hn : Instr.findNow (.struct fs) u (e :: L) 0 = none := by
        simp only [Instr.findNow]
        have : Instr.sameNow (.struct fs) u e.key = none := by
          unfold Instr.sameNow; split <;> first | rfl | contradiction
        rw [this]
      rcases findAsking_ok (P := P) (w := w) hs hk ok (e :: L) 0 hall with ⟨h1, h2⟩ | ⟨j, e', h1, h2, h3⟩
      · exact .inl ⟨by simp [run_und hu, hn, h1], h2⟩
      · exact .inr ⟨j, e', by simpa [run_und hu, hn] using h1, h2, h3⟩

theorem ERelL.mem {ρ : Rho} : ∀ {es : List (AV × AV × Nat)} {l : List MapEntry}, ERelL ρ es l → (∀ e ∈ l, ∃ x ∈ es, ERel ρ x e) ∧ (∀ x ∈ es, ∃ e ∈ l, ERel ρ x e)
  | [], l, h => by cases h; simp
  | x :: es, l, h => by
    obtain ⟨e, s, rfl, h1, h2⟩ := h
    obtain ⟨i1, i2⟩ := ERelL.mem h2
    refine ⟨fun y hy => ?_, fun y hy => ?_⟩
    · rcases List.mem_cons.1 hy with rfl | hy
      · exact ⟨x, by simp, h1⟩
      · obtain ⟨z, hz, r⟩ := i1 y hy; exact ⟨z, by simp [hz], r⟩
    · rcases List.mem_cons.1 hy with rfl | hy
      · exact ⟨e, by simp, h1⟩
      · obtain ⟨z, hz, r⟩ := i2 y hy; exact ⟨z, by simp [hz], r⟩

theorem mapFind_some {k v : AV} {n : Nat} : ∀ {es : List (AV × AV × Nat)}, mapFind k es = some (v, n) → (k, v, n) ∈ es
  | [], h => by simp [mapFind] at h
  | e :: r, h => by
    simp only [mapFind] at h
    split at h
    · rename_i hb
      have := (AV.beq_iff _ _).1 hb
      simp at h
      obtain ⟨a, b⟩ := e
      simp at this h
      subst this; subst h
      simp
    · simp [mapFind_some h]
theorem mapFind_none {k : AV} : ∀ {es : List (AV × AV × Nat)}, mapFind k es = none → ∀ x ∈ es, x.1 ≠ k
  | [], _, x, hx => by simp at hx
  | e :: r, h, x, hx => by
    simp only [mapFind] at h
    split at h
    · cases h
    · rename_i hb
      rcases List.mem_cons.1 hx with rfl | hx
      · intro e0; subst e0; rw [AV.beq_refl] at hb; cases hb
      · exact mapFind_none h x hx

/-- what a key finds in the model's map -/
theorem find_map {t : TypeId} {s : KSh} (hs : keyShape P t = some s) {k : AV} {u : Value} (hk : VRel ρ k u) (ok : shOk s k = true) {es : List (AV × AV × Nat)} {ents l : List MapEntry} (hp : ents.Perm l) (he : ERelL ρ es l)
    (hd : (es.map (·.1)).Nodup) (hsh : ∀ x ∈ es, shOk s x.1 = true) :
    (mapFind k es = none → (Instr.findKey t u ents).run P w = .ok none w) ∧
    (∀ v n, mapFind k es = some (v, n) → ∃ j e, (Instr.findKey t u ents).run P w = .ok (some (j, e.val)) w ∧ ents[j]? = some e ∧ ERel ρ (k, v, n) e) := by
  obtain ⟨m1, m2⟩ := he.mem
  have hall : ∀ e ∈ ents, ∃ a, KRel ρ s e a := fun e hm => by
    obtain ⟨x, hx, r⟩ := m1 e (hp.mem_iff.1 hm)
    exact ⟨x.1, r.1, hsh x hx⟩
  rcases findKey_ok (P := P) (w := w) hs hk ok ents hall with ⟨h1, h2⟩ | ⟨j, e, h1, h2, h3⟩
  · refine ⟨fun _ => h1, fun v n hf => ?_⟩
    obtain ⟨e, hm, r⟩ := m2 _ (mapFind_some hf)
    exact absurd rfl (h2 e (hp.mem_iff.2 hm) k ⟨r.1, ok⟩)
  · have hm : e ∈ ents := List.mem_of_getElem? h2
    obtain ⟨x, hx, r⟩ := m1 e (hp.mem_iff.1 hm)
    have hxk : x.1 = k := by
      have e1 := equal_key (P := P) (w := w) hs hk r.1 ok (hsh x hx)
      have e2 := equal_key (P := P) (w := w) hs hk h3.1 ok ok
      rw [e1] at e2
      simp only [Result.ok.injEq, and_true, AV.beq_refl] at e2
      exact ((AV.beq_iff _ _).1 e2).symm
    refine ⟨fun hn => absurd hxk (mapFind_none hn x hx), fun v n hf => ⟨j, e, h1, h2, ?_⟩⟩
    have hmem := mapFind_some hf
    have : x = (k, v, n) := by
      obtain ⟨a, b⟩ := x
      simp at hxk; subst hxk
      have := hd
      clear h1 h2 h3 r hm hf m1 m2 hp he hd hsh hall
      induction es with
      | nil => simp at hx
      | cons y es ih =>
        simp only [List.map_cons, List.nodup_cons] at this
        rcases List.mem_cons.1 hx with h0 | hx'
        · rcases List.mem_cons.1 hmem with h | h
          · rw [h0, h]
          · exact absurd (List.mem_map (f := fun x : AV × AV × Nat => x.1).2 ⟨_, h, by rw [← h0]⟩) this.1
        · rcases List.mem_cons.1 hmem with h | h
          · exact absurd (List.mem_map (f := fun x : AV × AV × Nat => x.1).2 ⟨_, hx', by rw [← h]⟩) this.1
          · exact ih hx' h this.2
    rw [this] at r; exact r
end Go.Md
end
