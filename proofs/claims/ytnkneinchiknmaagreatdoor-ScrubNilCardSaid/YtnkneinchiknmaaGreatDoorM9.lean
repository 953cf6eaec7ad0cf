import Derived.Test.YtnkneinchiknmaaGreatDoorM8
set_option linter.unusedVariables false
set_option linter.unusedSimpArgs false
set_option linter.unusedSectionVars false
section
/- SLICES' LITERALS, COPIES, TEXTS AS BYTES. No condition. -/
namespace Go.Md
open Go.RowKit (Below)
variable {P : Program} {ft : FT} {B : Nat} {w0 w w' : World} {ρ ρ' : Rho} {h h' : T AO} {nx nx' : Nat}

theorem bytesOf_pack {l : List AV} {us : List Value} (hv : VRelL ρ l us) {bits : Nat} (hp : packAV l = some bits) : us = byteVals bits l.length := by
  obtain ⟨h1, h2⟩ := packAV_spec hp
  apply List.ext_getElem?
  intro i
  have hl := hv.length
  by_cases hi : i < l.length
  · obtain ⟨u, a, b⟩ := hv.get i _ (List.getElem?_eq_getElem hi)
    rw [h2 i _ (List.getElem?_eq_getElem hi)] at b
    rw [a, byteVals_get _ _ _ hi, b]
    rfl
  · rw [List.getElem?_eq_none (by omega), List.getElem?_eq_none (by rw [byteVals_length]; omega)]

theorem fillParts_len : ∀ {ps : List (Nat × Nat)} {vs z l : List AV}, fillParts z ps vs = some l → l.length = z.length
  | [], [], z, l, h => by cases h; rfl
  | [], _ :: _, z, l, h => by simp [fillParts] at h
  | _ :: _, [], z, l, h => by simp [fillParts] at h
  | (off, n) :: ps, v :: vs, z, l, h => by
    simp only [fillParts] at h
    split at h
    · rename_i hn
      split at h
      · rename_i hle
        rw [fillParts_len h]
        have h1 := eq_of_beq' hn
        have h2 : off + n ≤ z.length := le_of_ble hle
        have h3 : Nat.add off n = off + n := rfl
        simp [h3]
        omega
      · cases h
    · cases h

theorem bsl_ok (R : Rel P ft B w0 ρ h nx w) {t e : TypeId} (ht : P.underlying t = some (.slice e)) {b : Bool} {esz n : Nat} {zs : List AV} (he : elT P e = some (b, esz, zs)) (hsm : n * esz ≤ 2 ^ 24) (parts : List (Nat × Operand)) (ev : Operand → Value)
    {vs : List AV} {v : AV} (hq : sBsl b n esz zs (parts.map (·.1)) vs h nx = some (v, h', nx')) (hv : VRelL ρ vs ((parts.map (·.2)).map ev)) :
    SOk P ft B w0 ρ w (Instr.buildSlice t n (parts.toArray.map fun (i, x) => (i, ev x))) v h' nx' := by
  obtain ⟨⟨E⟩, hby⟩ := elT_spec he
  unfold sBsl at hq
  split at hq
  · rename_i l hl
    have hzsz : E.z.cells.size = esz := E.zsize
    have hp : 0 < E.z.cells.size := by rw [hzsz]; exact E.pos
    have hmr := madeRel (E.zrel ρ) hp n
    rw [hzsz] at hmr
    have hzip : (parts.toArray.map fun (i, x) => (i, ev x)).toList = (parts.map (·.1)).zip ((parts.map (·.2)).map ev) := by
      simp only [Array.toList_map]
      clear hq hl hv
      induction parts with
      | nil => rfl
      | cons p parts ih => simp [List.zip_cons_cons] at ih ⊢; exact ih
    obtain ⟨L, hL, hLr⟩ := fill_ok (ρ := ρ) (fun i => some (i * esz, esz)) _ _ _ _ hl _ _ (parts.map (·.1)) hmr hv (by simp) (fun j i p hj hp => by
      rw [List.getElem?_map, hj] at hp
      simpa using hp)
    have hrun : (Instr.buildSlice t n (parts.toArray.map fun (i, x) => (i, ev x))).run P w = .ok (.slice (some ⟨w.heap.size, 0, none⟩) n n) (w.alloc (.cells L e)) := by
      by_cases h0 : n * E.i.size = 0
      · have hn0 : n = 0 := by
          rcases Nat.mul_eq_zero.1 h0 with h | h
          · exact h
          · rw [E.size] at h; have := E.pos; omega
        subst hn0
        have hsm' : ¬ (2 ^ 24 < 0) := by omega
        have hL' : Instr.fill (fun i => some (i * E.i.size, E.i.size)) #[] (List.map (fun x => (x.fst, ev x.snd)) parts) = some L := by
          have hz2 : List.map (fun x : Nat × Operand => (x.fst, ev x.snd)) parts = (parts.map (·.1)).zip ((parts.map (·.2)).map ev) := by rw [← hzip]; simp
          rw [hz2, E.size]
          simpa [Array.range_zero'] using hL
        simp [Instr.buildSlice, run_und ht, run_size (szOf_some' E.hi), newRow, Array.range_zero', hL']
      · refine run_buildSlice w t e n _ L E.i E.z ht E.hi E.hz (by rw [E.size]; omega) h0 ?_
        rw [hzip, E.size, hzsz]
        exact hL
    have hll : l.length = n * esz := by rw [fillParts_len hl, repl_length, ← (E.zrel ρ).length]; simp [hzsz]
    split at hq
    · obtain ⟨he1, hz1, _⟩ := hby rfl
      subst he1
      split at hq
      · rename_i bits hbits
        unfold newObj at hq
        cases hq
        refine ⟨_, _, _, R.le_new ⟨w.heap.size, 0, 1, L.toList.length⟩, hrun, ⟨_, _, Rho.upd_self _ _, rfl, Nat.le_refl _, rfl⟩, ?_⟩
        have hLb := bytesOf_pack hLr hbits
        have hf : OFits P ft ρ (.bytes bits n false) 1 L.toList := by
          rw [hLb, hll, Nat.mul_one]; exact OFits.bytes bits n false
        exact R.row (el := e) hf
      · cases hq
    · unfold newObj at hq
      cases hq
      refine ⟨_, _, _, R.le_new ⟨w.heap.size, 0, esz, L.toList.length⟩, hrun, ⟨_, _, Rho.upd_self _ _, rfl, Nat.le_refl _, rfl⟩, ?_⟩
      exact R.row (el := e) (OFits.cells hLr esz false false)
  · cases hq

theorem freeze_heap (w : World) (b n k : Nat) (c : Array Value) (el : TypeId) (lo hi : Nat) (hb : w.heap[b]? = some (.cells c el (lo, hi))) : (w.freeze ⟨b, n, none⟩ 1).heap[b]? = some (.cells c el (if lo == hi then (n, n + 1) else (min lo n, max hi (n + 1)))) := by
  simp [World.freeze, Array.getElem?_modify, hb]
theorem Diff.freeze {b n : Nat} (d : Diff B b w w') : Diff B b w (w'.freeze ⟨b, n, none⟩ 1) := by
  unfold World.freeze
  rw [if_neg (by omega)]
  refine ⟨d.os, d.tape, d.output, by simpa using d.size, d.low, by simpa using d.lt, fun k hk hl => ?_⟩
  have e : ∀ f, (w'.heap.modify b f)[k]? = w'.heap[k]? := fun f => by rw [Array.getElem?_modify, if_neg (fun e => hk e.symm)]
  exact (e _).trans (d.other k hk hl)

theorem Rel.congr (R : Rel P ft B w0 ρ h nx w) (he : ∀ i, h'.get i = h.get i) : Rel P ft B w0 ρ h' nx w :=
  ⟨fun i o hi => R.obj i o (by rw [← he]; exact hi), fun i j oi oj gi gj hi hj => R.inj i j oi oj gi gj (by rw [← he]; exact hi) (by rw [← he]; exact hj), R.dom, R.glob, R.base, R.below⟩

theorem s2b_ok (R : Rel P ft B w0 ρ h nx w) {s d e : TypeId} (hs : P.underlying s = some .string) (hd : P.underlying d = some (.slice e)) (he : isU8 P e = true) {vs : List AV} {v : AV} (hq : sS2b vs h nx = some (v, h', nx')) {us : List Value} (hv : VRelL ρ vs us) :
    ∃ x, us = [x] ∧ SOk P ft B w0 ρ w (convert s d x) v h' nx' := by
  have hue : P.underlying e = some (.int .u8) := by
    unfold isU8 at he
    split at he <;> first | assumption | cases he
  unfold sS2b at hq
  split at hq
  · rename_i bits n
    obtain ⟨u, rfl, hb, rfl⟩ := VRelL.one hv
    unfold newObj at hq
    cases hq
    refine ⟨_, rfl, ?_⟩
    have hcap := grownCap_ge w n 0 e
    have hsz : (⟨(unpackN bits n).toArray⟩ : ByteArray).size = n := by simp [ByteArray.size, unpackN_length]
    let cells : Array Value := (unpackN bits n).toArray.map (fun b : UInt8 => Value.int .u8 b.toNat) ++ Array.replicate (grownCap w n 0 e - n) (.int .u8 0)
    have hcl : cells.size = grownCap w n 0 e := by simp [cells, unpackN_length]; omega
    have hb0 := heap_alloc_new w.drew (.cells cells e)
    simp only [World.size_drew] at hb0
    have hsh : (w.drew.alloc (.cells cells e)).shape? w.heap.size = some (e, grownCap w n 0 e) := by
      simp only [World.shape?, hb0, hcl]
    have hrun : (convert s d (.string ⟨(unpackN bits n).toArray⟩)).run P w = .ok (.slice (some ⟨w.heap.size, 0, none⟩) n (grownCap w n 0 e)) ((w.drew.alloc (.cells cells e)).freeze ⟨w.heap.size, grownCap w n 0 e, none⟩ 1) := by
      have e1 : (convert s d (.string ⟨(unpackN bits n).toArray⟩)).run P w = (Conv.stringToBytes e ⟨(unpackN bits n).toArray⟩).run P w := by simp [convert, run_und hs, run_und hd, run_und hue]
      have e2 : (newRow e cells).run P w.drew = .ok ⟨w.heap.size, 0, none⟩ (w.drew.alloc (.cells cells e)) := by simp [newRow]
      have e3 : (markStringish ⟨w.heap.size, 0, none⟩).run P (w.drew.alloc (.cells cells e)) = .ok () ((w.drew.alloc (.cells cells e)).freeze ⟨w.heap.size, grownCap w n 0 e, none⟩ 1) := by
        simp [markStringish, hsh]
      have e4 : (choose (.appendCap n 0 e)).run P w = .ok (grownCap w n 0 e) w.drew := by simp [Question.forced, grownCap]
      rw [e1]
      simp only [Conv.stringToBytes, hsz, Sem.run_bind, e4, Result.andThen_ok]
      have e5 : cells = Array.map (fun b : UInt8 => Value.int .u8 b.toNat) (unpackN bits n).toArray ++ Array.replicate (grownCap w n 0 e - n) (.int .u8 0) := rfl
      rw [← e5, e2]
      simp [e3]
    refine ⟨_, _, _, R.le_new ⟨w.heap.size, 0, 1, grownCap w n 0 e⟩, hrun, ⟨_, _, Rho.upd_self _ _, rfl, hcap, ?_⟩, ?_⟩
    · show 0 + 0 + grownCap w n 0 e * 1 ≤ grownCap w n 0 e
      omega
    · have hfz := freeze_heap _ w.heap.size (grownCap w n 0 e) 0 cells e 0 0 hb0
      have hD : Diff B w.heap.size w.drew ((w.drew.alloc (.cells cells e)).freeze ⟨w.heap.size, grownCap w n 0 e, none⟩ 1) := Diff.freeze (Diff.alloc (w := w.drew) R.base _)
      refine R.drew.put (g := ⟨w.heap.size, 0, 1, grownCap w n 0 e⟩) hD (fun i _ gi _ hi => by have := (R.dom i gi hi).2; show gi.b ≠ w.heap.size; omega) ⟨cells, e, _, hfz, hcl, .inr (by rw [hcl]; exact Nat.le_refl _), ?_, rfl, fun j hj => ?_⟩
      · show 0 + n ≤ grownCap w n 0 e
        omega
      · show cells[0 + j]? = _
        rw [Nat.zero_add]
        have hj2 : j < (unpackN bits n).length := by rw [unpackN_length]; exact hj
        rw [Array.getElem?_append_left (by simpa using hj2)]
        have := byt_lt bits j
        simp [unpackN_get, hj, Nat.mod_eq_of_lt this]
  · cases hq

theorem mstr_ok (R : Rel P ft B w0 ρ h nx w) {s e : TypeId} (hs : P.underlying s = some (.slice e)) (he : isU8 P e = true) {vs : List AV} {v : AV} (hq : sMstr vs h nx = some (v, h', nx')) {us : List Value} (hv : VRelL ρ vs us) :
    ∃ x, us = [x] ∧ SOk P ft B w0 ρ w (convert s s x) v h' nx' := by
  have hue : P.underlying e = some (.int .u8) := by
    unfold isU8 at he
    split at he <;> first | assumption | cases he
  unfold sMstr at hq
  split at hq
  · rename_i id off len cap
    obtain ⟨u, rfl, g, c, hρ, rfl, hlc, hcap⟩ := VRelL.one hv
    refine ⟨_, rfl, ?_⟩
    split at hq
    · rename_i bits m o hg
      cases hq
      obtain ⟨⟨arr, el, ⟨lo, hi⟩, hb, hsz, hfz, hd, hge, hc⟩, hB⟩ := R.at hg hρ
      have hB' : B ≤ g.b := by rcases hB with hB | hB
                               · cases hB
                               · exact hB
      have hbl : g.b < w.heap.size := (R.dom _ _ hρ).2
      have hsh : w.shape? g.b = some (el, arr.size) := by simp only [World.shape?, hb]
      have e3 : (markStringish ⟨g.b, g.d + off, none⟩).run P w = .ok () (w.freeze ⟨g.b, arr.size, none⟩ 1) := by simp [markStringish, hsh]
      refine ⟨ρ, _, _, Rho.le.refl ρ, by simp [convert, run_und hs, run_und hue, e3]; rfl, ⟨g, c, hρ, rfl, hlc, hcap⟩, ?_⟩
      have hf := freeze_heap w g.b arr.size 0 arr el lo hi hb
      have hDw : Diff B g.b w w := ⟨rfl, rfl, rfl, Nat.le_refl _, hB', hbl, fun _ _ _ => rfl⟩
      have hR := R.upd (o' := .bytes bits m o) hg hρ rfl (Diff.freeze (n := arr.size) hDw) ⟨arr, el, _, hf, hsz, ?_, hd, hge, hc⟩
      · exact hR.congr fun i => by
          rw [T.get_set]
          split
          · rename_i e; subst e; exact hg
          · rfl
      · rcases hfz with hfz | hfz
        · cases hfz; right; simp
        · right
          have hfz' : arr.size ≤ lo := hfz
          split
          · exact Nat.le_refl _
          · show arr.size ≤ min lo arr.size
            omega
    · cases hq
  · cases hq
end Go.Md
end
section
/- THE OPERATIONS THAT WRITE OR MAKE: ALL OF THEM. No condition. -/
namespace Go.Md
open Go.RowKit (Below)
variable {P : Program} {ft : FT} {B : Nat} {w0 w w' : World} {ρ ρ' : Rho} {h h' : T AO} {nx nx' : Nat}

theorem cpy_ok (R : Rel P ft B w0 ρ h nx w) {t e : TypeId} (ht : P.underlying t = some (.slice e)) {esz : Nat} (hs : szOf P e = some esz) (ty : TypeId) {at_ : Array TypeId} (hat : at_[0]? = some t) {vs : List AV} {v : AV} (hq : sCpy esz vs h nx = some (v, h', nx'))
    {us : List Value} (hv : VRelL ρ vs us) : ∃ d s, us = [d, s] ∧ SOk P ft B w0 ρ w (Builtin.copy_ at_ ty #[d, s]) v h' nx' := by
  unfold sCpy at hq
  split at hq
  · rename_i id off len cap id' off' len' cap'
    obtain ⟨u1, u2, rfl, h1, h2⟩ := VRelL.two hv
    obtain ⟨g, c, hρ, rfl, hlc, _⟩ := h1
    obtain ⟨g', c', hρ', rfl, hlc', _⟩ := h2
    refine ⟨_, _, rfl, ?_⟩
    split at hq
    · rename_i vs' hl
      split at hq
      · rename_i h2 hst
        cases hq
        obtain ⟨cs, r1, r2, r3⟩ := loadCells_ok R hl hρ'
        obtain ⟨hrun, R'⟩ := storeCells_ok R hst hρ r1
        have hf : (Builtin.firstCells esz (Nat.min len' len) (.slice (some ⟨g'.b, g'.d + off', none⟩) len' c')).run P w = .ok cs.toArray w :=
          run_firstCells_some w esz (Nat.min len' len) ⟨g'.b, g'.d + off', none⟩ len' c' cs r2 (fun j u hu => by rw [add_addr]; exact r3 j u hu)
        refine ⟨ρ, _, goInt (Nat.min len' len), Rho.le.refl ρ, ?_, rfl, R'⟩
        · simp only [Builtin.copy_, hat, Sem.run_bind, run_und ht, Result.andThen_ok, Builtin.lenOf, Sem.run_pure, run_size hs, List.getElem?_toArray, List.getElem?_cons_zero, List.getElem?_cons_succ]
          simp [hf, hrun]
      · cases hq
    · cases hq
  · cases hq

theorem byteCells_vals {bits n : Nat} : byteCells ⟨(unpackN bits n).toArray⟩ = byteVals bits n := by
  apply List.ext_getElem?
  intro i
  by_cases hi : i < n
  · rw [byteVals_get _ _ _ hi]
    have := byt_lt bits i
    simp [byteCells, unpackN_get, hi, Nat.mod_eq_of_lt this]
  · rw [List.getElem?_eq_none (by simp [byteCells, unpackN_length]; omega), List.getElem?_eq_none (by rw [byteVals_length]; omega)]
theorem byteVals_one {bits n : Nat} : ∀ u ∈ byteVals bits n, u.oneCell' = true := by
  intro u hu
  simp only [byteVals, List.mem_map] at hu
  obtain ⟨_, _, rfl⟩ := hu
  rfl

theorem srcBytes_src (R : Rel P ft B w0 ρ h nx w) {tx : TypeId} (hk : (∃ e', P.underlying tx = some (.slice e')) ∨ P.underlying tx = some .string) {x : AV} {u : Value} (hx : VRel ρ x u) {bits n : Nat} (hs : srcBytes h x = some (bits, n)) :
    bits < 256 ^ n ∧ Src P 1 tx u n (byteVals bits n) w := by
  have nil : ∀ {a : Option Addr} {c : Nat}, Src P 1 tx (.slice a 0 c) 0 (byteVals 0 0) w := by
    intro a c
    cases a with
    | none => exact ⟨hk, fun _ => rfl, run_firstCells_none w 1 0 0 c, run_firstCells_none w.drew 1 0 0 c, rfl, byteVals_one⟩
    | some a => exact ⟨hk, fun _ => rfl, run_firstCells_some w 1 0 a 0 c [] rfl (by simp), run_firstCells_some w.drew 1 0 a 0 c [] rfl (by simp), rfl, byteVals_one⟩
  cases x <;> simp only [srcBytes] at hs <;> try (cases hs; done)
  case str b m =>
    cases hs
    obtain ⟨hb, rfl⟩ := hx
    have hsz : (⟨(unpackN bits n).toArray⟩ : ByteArray).size = n := by simp [ByteArray.size, unpackN_length]
    have h1 := firstCells_string (P := P) ⟨(unpackN bits n).toArray⟩ w
    have h2 := firstCells_string (P := P) ⟨(unpackN bits n).toArray⟩ w.drew
    rw [byteCells_vals, hsz] at h1 h2
    exact ⟨hb, hk, fun _ => by show Result.ok _ _ = _; rw [hsz], h1, h2, by rw [byteVals_length]; omega, byteVals_one⟩
  case snil => cases hs; cases hx; exact ⟨by decide, nil⟩
  case sle => cases hs; obtain ⟨a, c, rfl⟩ := hx; exact ⟨by decide, nil⟩
  case sl id off len cap =>
    obtain ⟨g, c, hρ, rfl, hlc, _⟩ := hx
    obtain ⟨rfl, hb, _, hc⟩ := srcB_ok (cap := cap) R (by simpa only [srcBytes] using hs) hρ
    exact ⟨hb, hk, fun _ => rfl, firstCells_at (by simp [byteVals_length]) hc, firstCells_at (by simp [byteVals_length]) (by simpa using hc), by simp [byteVals_length], byteVals_one⟩

theorem srcCells_src (R : Rel P ft B w0 ρ h nx w) {tx : TypeId} (hk : (∃ e', P.underlying tx = some (.slice e')) ∨ P.underlying tx = some .string) {esz : Nat} {x : AV} {u : Value} (hx : VRel ρ x u) {vs : List AV} {n : Nat} (hs : srcCells h esz x = some (vs, n)) (h1 : allOne vs = true) :
    ∃ news, VRelL ρ vs news ∧ Src P esz tx u n news w := by
  have nil : ∀ {a : Option Addr} {c : Nat}, Src P esz tx (.slice a 0 c) 0 [] w := by
    intro a c
    cases a with
    | none => exact ⟨hk, fun _ => rfl, run_firstCells_none w esz 0 0 c, run_firstCells_none w.drew esz 0 0 c, by simp, by simp⟩
    | some a => exact ⟨hk, fun _ => rfl, run_firstCells_some w esz 0 a 0 c [] (by simp) (by simp), run_firstCells_some w.drew esz 0 a 0 c [] (by simp) (by simp), by simp, by simp⟩
  cases x <;> simp only [srcCells] at hs <;> try (cases hs; done)
  case snil => cases hs; cases hx; exact ⟨[], rfl, nil⟩
  case sle => cases hs; obtain ⟨a, c, rfl⟩ := hx; exact ⟨[], rfl, nil⟩
  case sl id off len cap =>
    obtain ⟨g, c, hρ, rfl, hlc, _⟩ := hx
    obtain ⟨rfl, us, hus, hul, hc⟩ := srcC_ok (cap := cap) R (by simpa only [srcCells] using hs) hρ
    exact ⟨us, hus, hk, fun _ => rfl, firstCells_at hul hc, firstCells_at hul (by simpa using hc), hul, hus.oneCells h1⟩

theorem app_allOne {esz : Nat} {s v : AV} {vs : List AV} {n : Nat} (hq : appCells h nx esz s vs n = some (v, h', nx')) : n = 0 ∨ allOne vs = true := by
  unfold appCells at hq
  split at hq
  · split at hq
    · rename_i hn; exact .inl (eq_of_beq' hn)
    · split at hq
      · rename_i h1; exact .inr h1
      · cases hq
  · split at hq
    · rename_i hn; exact .inl (eq_of_beq' hn)
    · split at hq
      · cases hq
      · rename_i h1; exact .inr h1
  · cases hq

/-- nothing is appended -/
theorem app_nothing {esz : Nat} {s v : AV} {vs : List AV} {n : Nat} (hn : n = 0) (hq : appCells h nx esz s vs n = some (v, h', nx')) : v = s ∧ h' = h ∧ nx' = nx ∧ (s = .snil ∨ ∃ id off len cap, s = .sl id off len cap) := by
  subst hn
  unfold appCells at hq
  split at hq
  · cases hq; exact ⟨rfl, rfl, rfl, .inl rfl⟩
  · cases hq; exact ⟨rfl, rfl, rfl, .inr ⟨_, _, _, _, rfl⟩⟩
  · cases hq

theorem app_ok (R : Rel P ft B w0 ρ h nx w) {t tx e : TypeId} (ht : P.underlying t = some (.slice e)) (hk : (∃ e', P.underlying tx = some (.slice e')) ∨ P.underlying tx = some .string) {b : Bool} {esz : Nat} {zs : List AV} (he : elT P e = some (b, esz, zs)) (ty : TypeId)
    {vs : List AV} {v : AV} (hq : sApp b esz vs h nx = some (v, h', nx')) {us : List Value} (hv : VRelL ρ vs us) : ∃ s x, us = [s, x] ∧ SOk P ft B w0 ρ w (Builtin.append_ #[t, tx] ty #[s, x]) v h' nx' := by
  obtain ⟨⟨E⟩, hby⟩ := elT_spec he
  unfold sApp at hq
  split at hq
  · rename_i s x
    obtain ⟨su, xu, rfl, hs, hx⟩ := VRelL.two hv
    refine ⟨su, xu, rfl, ?_⟩
    split at hq
    · obtain ⟨rfl, rfl, _⟩ := hby rfl
      split at hq
      · rename_i bits n hsb
        obtain ⟨hb, hS⟩ := srcBytes_src R hk hx hsb
        have A := AppR.ofSrc (ty := ty) ht E (by rw [E.size]; exact hS)
        rw [E.size] at A
        exact appBytes_ok A E.zsize hb R hs hq
      · cases hq
    · split at hq
      · rename_i l n hsc
        rcases app_allOne hq with hn | h1
        · -- nothing
          have hS0 : Src P esz tx xu 0 [] w := by
            subst hn
            cases x <;> simp only [srcCells] at hsc <;> try (cases hsc; done)
            case snil => cases hx; exact ⟨hk, fun _ => rfl, run_firstCells_none w esz 0 0 0, run_firstCells_none w.drew esz 0 0 0, by simp, by simp⟩
            case sle => obtain ⟨a, c, rfl⟩ := hx; exact ⟨hk, fun _ => rfl, run_firstCells_some w esz 0 a 0 c [] (by simp) (by simp), run_firstCells_some w.drew esz 0 a 0 c [] (by simp) (by simp), by simp, by simp⟩
            case sl id off len cap =>
              obtain ⟨g, c, hρ, rfl, hlc, _⟩ := hx
              obtain ⟨rfl, _⟩ := srcC_ok (cap := cap) R (by simpa only [srcCells] using hsc) hρ
              exact ⟨hk, fun _ => rfl, run_firstCells_some w esz 0 _ 0 c [] (by simp) (by simp), run_firstCells_some w.drew esz 0 _ 0 c [] (by simp) (by simp), by simp, by simp⟩
          have A := AppR.ofSrc (ty := ty) ht E (by rw [E.size]; exact hS0)
          obtain ⟨rfl, rfl, rfl, hsh⟩ := app_nothing hn hq
          rcases hsh with rfl | ⟨id, off, len, cap, rfl⟩
          · cases hs
            exact ⟨ρ, w, _, Rho.le.refl ρ, A.nothing rfl none 0 0 (Nat.le_refl _), rfl, R⟩
          · obtain ⟨g, c, hρ, rfl, hlc, hcap⟩ := hs
            exact ⟨ρ, w, _, Rho.le.refl ρ, A.nothing rfl _ len c hlc, ⟨g, c, hρ, rfl, hlc, hcap⟩, R⟩
        · obtain ⟨news, hnews, hS⟩ := srcCells_src R hk hx hsc h1
          have A := AppR.ofSrc (ty := ty) ht E (by rw [E.size]; exact hS)
          rw [E.size] at A
          exact appCells_ok A E.zsize hnews R hs hq
      · cases hq
  · cases hq

theorem appz_ok (R : Rel P ft B w0 ρ h nx w) {t tx e : TypeId} {ik : IntKind} (ht : P.underlying t = some (.slice e)) (hk : P.underlying tx = some (.int ik)) {b : Bool} {esz : Nat} {zs : List AV} (he : elT P e = some (b, esz, zs)) (hz1 : allOne zs = true) (ty : TypeId)
    {vs : List AV} {v : AV} (hq : sAppz b esz zs vs h nx = some (v, h', nx')) {us : List Value} (hv : VRelL ρ vs us) : ∃ s x, us = [s, x] ∧ SOk P ft B w0 ρ w (Builtin.append_ #[t, tx] ty #[s, x]) v h' nx' := by
  obtain ⟨⟨E⟩, hby⟩ := elT_spec he
  have hone := (E.zrel ρ).oneCells hz1
  unfold sAppz at hq
  split at hq
  · rename_i s k n
    obtain ⟨su, xu, rfl, hs, hx⟩ := VRelL.two hv
    cases hx
    refine ⟨su, _, rfl, ?_⟩
    split at hq
    · rename_i hn
      have A := AppR.ofZeros (w := w) (ty := ty) ht hk E hone k n (le_of_ble hn)
      rw [E.size] at A
      have hmr := madeRel (E.zrel ρ) (by rw [E.zsize]; exact E.pos) n
      have hzc : (Builtin.zeroCells E.z.cells n).toList = ((Array.range (n * E.z.cells.size)).map (E.z.cells[· % E.z.cells.size]!)).toList := rfl
      split at hq
      · obtain ⟨rfl, rfl, _⟩ := hby rfl
        have hb : (Builtin.zeroCells E.z.cells n).toList = byteVals 0 n := by
          rw [hzc]
          have hl := hmr.length
          rw [repl_length] at hl
          have hz0 : ∀ n (i : Nat) v, (repl [AV.int IntKind.u8 (Int.ofNat 0)] n)[i]? = some v → v = .int .u8 (Int.ofNat 0) := by
            intro n
            induction n with
            | zero => intro i v h; simp [repl] at h
            | succ n ih =>
              intro i v h
              cases i with
              | zero => simp [repl] at h; exact h.symm
              | succ i => simp [repl] at h; exact ih i v h
          apply List.ext_getElem?
          intro i
          by_cases hi : i < n
          · rw [byteVals_get _ _ _ hi]
            have hlt : i < (repl [AV.int IntKind.u8 (Int.ofNat 0)] n).length := by rw [repl_length]; simpa using hi
            obtain ⟨u, hu1, hu2⟩ := hmr.get i _ (List.getElem?_eq_getElem hlt)
            rw [hz0 n i _ (List.getElem?_eq_getElem hlt)] at hu2
            rw [hu1, hu2]
            simp [byt_def]
          · rw [List.getElem?_eq_none (by rw [hl]; simpa using hi), List.getElem?_eq_none (by rw [byteVals_length]; omega)]
        rw [hb] at A
        exact appBytes_ok A E.zsize (Nat.pow_pos (by decide)) R hs hq
      · rw [hzc] at A
        exact appCells_ok A E.zsize hmr R hs hq
    · cases hq
  · cases hq
end Go.Md
end
section
/- THE OPERATIONS THAT WRITE OR MAKE: 'sop_ok'. No condition. -/
namespace Go.Md
open Go.RowKit (Below)
variable {P : Program} {ft : FT} {B : Nat} {w0 w w' : World} {ρ ρ' : Rho} {h h' : T AO} {nx nx' : Nat}

/-- an operation's end: a value or none, a new heap -/
def SYld (P : Program) (ft : FT) (B : Nat) (w0 : World) (ρ : Rho) (w : World) (ev : Operand → Value) (o : Oper) (v : AV) (h' : T AO) (nx' : Nat) : Prop :=
  ∃ ρ' w' u n, ρ.le ρ' ∧ (execOp ev o).run P w = .ok n w' ∧ (n = .value u ∨ (n = .skip ∧ u = undef)) ∧ VRel ρ' v u ∧ Rel P ft B w0 ρ' h' nx' w'

theorem sop_ok (R : Rel P ft B w0 ρ h nx w) {ev : Operand → Value} {o : Oper} {k : SK} {xs : List Operand} (hc : compS P o.op = some (k, xs)) {vs : List AV} {v : AV} (hv : VRelL ρ vs (xs.map ev)) (hq : sop k vs h nx = some (v, h', nx')) :
    SYld P ft B w0 ρ w ev o v h' nx' := by
  have val : ∀ {s : Sem Value}, execOp ev o = (do pure (Next.value (← s))) → SOk P ft B w0 ρ w s v h' nx' → SYld P ft B w0 ρ w ev o v h' nx' := by
    rintro s he ⟨ρ', w', u, h1, h2, h3, h4⟩
    exact ⟨ρ', w', u, .value u, h1, by rw [he]; exact run_v h2, .inl rfl, h3, h4⟩
  have unit : ∀ {s : Sem Unit} {w' : World}, execOp ev o = (do s; pure .skip) → s.run P w = .ok () w' → v = .undef → Rel P ft B w0 ρ h' nx' w' → SYld P ft B w0 ρ w ev o v h' nx' := by
    rintro s w' he h2 rfl h4
    exact ⟨ρ, w', undef, .skip, Rho.le.refl ρ, by rw [he]; simp [h2], .inr ⟨rfl, rfl⟩, rfl, h4⟩
  cases ho : o.op <;> rw [ho] at hc <;> simp only [compS] at hc
  all_goals try (cases hc; done)
  case convert s d x =>
    split at hc
    · rename_i e hs hd
      split at hc
      · rename_i he
        cases hc
        obtain ⟨y, e1, hr⟩ := s2b_ok R hs hd he hq hv
        cases e1
        exact val (by simp [execOp, ho]) hr
      · cases hc
    · rename_i e' e hs hd
      split at hc
      · rename_i he
        simp only [Bool.and_eq_true, beq_iff_eq] at he
        obtain ⟨rfl, he⟩ := he
        cases hc
        obtain ⟨y, e1, hr⟩ := mstr_ok R hd he hq hv
        cases e1
        exact val (by simp [execOp, ho]) hr
      · cases hc
    · cases hc
  case alloc e =>
    cases hz : zeroCells? P e with
    | none => simp [hz] at hc
    | some z =>
      simp [hz] at hc
      obtain ⟨rfl, rfl⟩ := hc
      exact val (by simp [execOp, ho]) (alloc_ok R hz hq (.tuple #[]))
  case box e x =>
    cases hc
    obtain ⟨y, e1, hr⟩ := box_ok R (e := e) hq hv
    cases e1
    exact val (by simp [execOp, ho]) hr
  case buildSlice t n parts =>
    split at hc
    · rename_i e ht
      split at hc
      · rename_i b z zs he
        split at hc
        · rename_i hsm
          cases hc
          have := bsl_ok R ht he hsm parts.toList ev hq hv
          simp only [Array.toArray_toList] at this
          exact val (by simp [execOp, ho]) this
        · cases hc
      · cases hc
    · cases hc
  case store t a x =>
    cases hz : szOf P t with
    | none => simp [hz] at hc
    | some n =>
      simp [hz] at hc
      obtain ⟨rfl, rfl⟩ := hc
      obtain ⟨a', x', w', e1, hr, hv0, R'⟩ := st_ok R hz hq hv
      cases e1
      exact unit (by simp [execOp, ho]) hr hv0 R'
  case mapUpdate t m k' x =>
    split at hc
    · rename_i kt e ht
      cases hk : keyShape P kt with
      | none => simp [hk] at hc
      | some s =>
        simp [hk] at hc
        obtain ⟨rfl, rfl⟩ := hc
        obtain ⟨a', b', x', w', e1, hr, hv0, R'⟩ := mu_ok R ht hk hq hv
        cases e1
        exact unit (by simp [execOp, ho]) hr hv0 R'
    · cases hc
  case insert t m k' x =>
    split at hc
    · rename_i kt e ht
      cases hk : keyShape P kt with
      | none => simp [hk] at hc
      | some s =>
        simp [hk] at hc
        obtain ⟨rfl, rfl⟩ := hc
        obtain ⟨a', b', x', w', e1, hr, hv0, R'⟩ := mu_ok R ht hk hq hv
        cases e1
        exact unit (by simp [execOp, ho]) hr hv0 R'
    · cases hc
  case makeMap t r =>
    split at hc
    · rename_i kt e ht
      cases hk : keyShape P kt with
      | none => simp [hk] at hc
      | some s =>
        simp [hk] at hc
        obtain ⟨rfl, rfl⟩ := hc
        exact val (by simp [execOp, ho]) (mkm_ok R ht hq hv)
    · cases hc
  case makeSlice t l c =>
    split at hc
    · rename_i e ht
      split at hc
      · rename_i b n z he
        cases hc
        obtain ⟨l', c', e1, hr⟩ := mks_ok R ht he hq hv
        cases e1
        exact val (by simp [execOp, ho]) hr
      · cases hc
    · cases hc
  case range t x =>
    split at hc
    · rename_i kt e ht
      cases hc
      obtain ⟨y, e1, hr⟩ := rngm_ok R ht hq hv
      cases e1
      exact val (by simp [execOp, ho]) hr
    · cases hc
  case call c =>
    unfold compCallS at hc
    have bi : ∀ {b : Builtin} {s : Array Value → Sem Value} {xs : List Operand}, c.callee = .builtin b → c.args.toList = xs → (∀ a, builtin b c.argTypes o.type (c.args.map fun | .const _ => true | _ => false) a = (do pure (Next.value (← s a)))) →
        SOk P ft B w0 ρ w (s (xs.map ev).toArray) v h' nx' → SYld P ft B w0 ρ w ev o v h' nx' := by
      intro b s xs hb hx hs hr
      have hargs : c.args.map ev = (xs.map ev).toArray := by rw [← hx]; apply Array.ext'; simp
      obtain ⟨ρ', w', u, h1, h2, h3, h4⟩ := hr
      refine ⟨ρ', w', u, .value u, h1, ?_, .inl rfl, h3, h4⟩
      simp only [execOp, ho, resolve, hb, Sem.run_bind, Sem.run_pure, Result.andThen_ok, invoke, hargs]
      exact (congrArg (fun s => s.run P w) (hs _)).trans (run_v h2)
    split at hc
    · rename_i hcal
      split at hc
      · rename_i t xt s x hat hx
        split at hc
        · rename_i e ht
          have hat' : c.argTypes = #[t, xt] := by rw [← Array.toArray_toList (xs := c.argTypes), hat]
          split at hc
          · rename_i b n z ik he hk
            split at hc
            · rename_i hz1
              cases hc
              obtain ⟨s', x', e1, hr⟩ := appz_ok R ht hk he hz1 o.type hq hv
              refine bi (s := fun a => Builtin.append_ c.argTypes o.type a) hcal hx (fun a => rfl) ?_
              rw [e1, hat']
              exact hr
            · cases hc
          · rename_i b n z e' he hk
            cases hc
            obtain ⟨s', x', e1, hr⟩ := app_ok R ht (.inl ⟨_, hk⟩) he o.type hq hv
            refine bi (s := fun a => Builtin.append_ c.argTypes o.type a) hcal hx (fun a => rfl) ?_
            rw [e1, hat']
            exact hr
          · rename_i b n z he hk
            split at hc
            · cases hc
              obtain ⟨s', x', e1, hr⟩ := app_ok R ht (.inr hk) he o.type hq hv
              refine bi (s := fun a => Builtin.append_ c.argTypes o.type a) hcal hx (fun a => rfl) ?_
              rw [e1, hat']
              exact hr
            · cases hc
          · cases hc
        · cases hc
      · cases hc
    · rename_i hcal
      split at hc
      · rename_i t d s hat hx
        split at hc
        · rename_i e ht
          cases hz : szOf P e with
          | none => simp [hz] at hc
          | some n =>
            simp [hz] at hc
            obtain ⟨rfl, rfl⟩ := hc
            obtain ⟨s', x', e1, hr⟩ := cpy_ok R ht hz o.type hat hq hv
            refine bi (s := fun a => Builtin.copy_ c.argTypes o.type a) hcal hx (fun a => rfl) ?_
            rw [e1]
            exact hr
        · cases hc
      · cases hc
    · rename_i hcal
      split at hc
      · rename_i t m k' hat hx
        split at hc
        · rename_i kt e ht
          cases hk : keyShape P kt with
          | none => simp [hk] at hc
          | some s =>
            simp [hk] at hc
            obtain ⟨rfl, rfl⟩ := hc
            obtain ⟨s', x', w', e1, hr, hv0, R'⟩ := del_ok R ht hk o.type hat hq hv
            refine bi (s := fun a => Builtin.delete_ c.argTypes o.type a) hcal hx (fun a => rfl) ?_
            rw [e1]
            exact ⟨ρ, w', .tuple #[], Rho.le.refl ρ, hr, by rw [hv0]; rfl, R'⟩
        · cases hc
      · cases hc
    · cases hc
end Go.Md
end
section
/- THE ORDERS OF A REGION THAT DRAWS: each lists all operations once, each behind what leads to it. No condition. -/
namespace Go.Md

theorem mem_preds {ops : Array Oper} {i : Nat} {o : Oper} (ho : ops[i]? = some o) {p : Nat} : p ∈ preds ops i ↔ ∃ e ∈ o.after, Region.binds .any e = true ∧ e.on = p := by
  unfold preds
  rw [ho]
  simp only [List.mem_map, List.mem_filter, Array.mem_toList_iff]
  constructor
  · rintro ⟨e, ⟨h1, h2⟩, h3⟩; exact ⟨e, h1, h2, h3⟩
  · rintro ⟨e, h1, h2, h3⟩; exact ⟨e, ⟨h1, h2⟩, h3⟩

structure Lin (ops : Array Oper) (ord : List Nat) : Prop where
  nodup : ord.Nodup
  lt : ∀ i ∈ ord, i < ops.size
  pre : ∀ A i C, ord = A ++ i :: C → ∀ p ∈ preds ops i, p ∈ A

theorem go_lin {ops : Array Oper} (hac : ∀ i, i < ops.size → ∀ p ∈ preds ops i, p < i) : ∀ (fuel t : Nat) (listed : Array Bool) (acc : List Nat), listed.size = ops.size → (∀ i, i < ops.size → (listed.getD i false = true ↔ i ∈ acc)) → acc.length + fuel = ops.size →
    Lin ops acc.reverse → Lin ops (Region.linearise.go .any ops fuel t listed acc) ∧ (Region.linearise.go .any ops fuel t listed acc).length = ops.size
  | 0, t, listed, acc, hl, hm, hf, hL => by
    simp only [Region.linearise.go]
    exact ⟨hL, by simpa using hf⟩
  | fuel + 1, t, listed, acc, hl, hm, hf, hL => by
    simp only [Region.linearise.go]
    have hready : ∀ i, i ∈ ((List.range ops.size).filter fun i => !listed.getD i true && ((ops[i]?).map (·.after.all fun e => !Region.binds .any e || listed.getD e.on false)).getD false) ↔ i < ops.size ∧ i ∉ acc ∧ ∀ p ∈ preds ops i, p ∈ acc := by
      intro i
      rw [List.mem_filter, List.mem_range]
      constructor
      · rintro ⟨h1, h2⟩
        simp only [Bool.and_eq_true, Bool.not_eq_true'] at h2
        obtain ⟨h3, h4⟩ := h2
        have ho : ops[i]? = some ops[i] := Array.getElem?_eq_getElem h1
        rw [ho] at h4
        simp only [Option.map_some, Option.getD_some, Array.all_eq_true_iff_forall_mem] at h4
        refine ⟨h1, fun hmem => ?_, fun p hp => ?_⟩
        · have := (hm i h1).2 hmem
          have e1 : listed.getD i true = listed.getD i false := by simp [Array.getD_eq_getD_getElem?, Array.getElem?_eq_getElem (show i < listed.size by omega)]
          rw [e1, this] at h3; cases h3
        · obtain ⟨e, he, hb, rfl⟩ := (mem_preds ho).1 hp
          have := h4 e he
          rw [hb] at this
          exact (hm _ (by have := hac i h1 _ hp; omega)).1 (by simpa using this)
      · rintro ⟨h1, h2, h3⟩
        refine ⟨h1, ?_⟩
        have ho : ops[i]? = some ops[i] := Array.getElem?_eq_getElem h1
        have e1 : listed.getD i true = listed.getD i false := by simp [Array.getD_eq_getD_getElem?, Array.getElem?_eq_getElem (show i < listed.size by omega)]
        have e2 : listed.getD i false = false := by
          cases hx : listed.getD i false with
          | false => rfl
          | true => exact absurd ((hm i h1).1 hx) h2
        rw [e1, e2, ho]
        simp only [Bool.not_false, Option.map_some, Option.getD_some, Bool.true_and, Array.all_eq_true_iff_forall_mem]
        intro e he
        cases hb : Region.binds .any e with
        | false => rfl
        | true =>
          have hp : e.on ∈ preds ops i := (mem_preds ho).2 ⟨e, he, hb, rfl⟩
          simp only [Bool.not_true, Bool.false_or]
          exact (hm _ (by have := hac i h1 _ hp; omega)).2 (h3 _ hp)
    generalize hrs : ((List.range ops.size).filter fun i => !listed.getD i true && ((ops[i]?).map (·.after.all fun e => !Region.binds .any e || listed.getD e.on false)).getD false) = rs at hready
    -- one is ready
    have hne : rs ≠ [] := by
      have hex : ∃ i, i < ops.size ∧ i ∉ acc := by
        apply Classical.byContradiction
        intro hno
        have hall : ∀ i ∈ List.range ops.size, i ∈ acc := fun i hi => Classical.byContradiction fun h => hno ⟨i, List.mem_range.1 hi, h⟩
        have := (List.nodup_range (n := ops.size)).length_le_of_subset hall
        simp at this
        omega
      have hmin : ∀ n i, i ≤ n → i < ops.size → i ∉ acc → ∃ j, j < ops.size ∧ j ∉ acc ∧ ∀ p, p < j → p ∈ acc := by
        intro n
        induction n with
        | zero => intro i hi h1 h2; exact ⟨i, h1, h2, fun p hp => by omega⟩
        | succ n ih =>
          intro i hi h1 h2
          by_cases hall : ∀ p, p < i → p ∈ acc
          · exact ⟨i, h1, h2, hall⟩
          · obtain ⟨p, hp⟩ := Classical.not_forall.1 hall
            obtain ⟨hp1, hp2⟩ := Classical.not_imp.1 hp
            exact ih p (by omega) (by omega) hp2
      obtain ⟨i, h1, h2⟩ := hex
      obtain ⟨j, h3, h4, h5⟩ := hmin i i (Nat.le_refl _) h1 h2
      have : j ∈ rs := (hready j).2 ⟨h3, h4, fun p hp => h5 p (hac j h3 p hp)⟩
      intro h0; rw [h0] at this; cases this
    have hlt : t % rs.length < rs.length := Nat.mod_lt _ (List.length_pos_iff.2 hne)
    rw [List.getElem?_eq_getElem hlt]
    simp only
    have hin : rs[t % rs.length] ∈ rs := List.getElem_mem hlt
    generalize rs[t % rs.length] = i at hin
    obtain ⟨h1, h2, h3⟩ := (hready i).1 hin
    refine go_lin hac fuel _ _ (i :: acc) (by simpa using hl) (fun j hj => ?_) (by simp; omega) ⟨?_, ?_, ?_⟩
    · by_cases e : i = j
      · subst e
        simp [Array.getD_eq_getD_getElem?, Array.getElem?_setIfInBounds_self_of_lt (show i < listed.size by omega)]
      · have : (listed.setIfInBounds i true).getD j false = listed.getD j false := by simp [Array.getD_eq_getD_getElem?, Array.getElem?_setIfInBounds_ne e]
        rw [this, hm j hj]
        simp [Ne.symm e]
    · simp only [List.reverse_cons]
      rw [List.nodup_append]
      refine ⟨hL.nodup, by simp, fun a ha b hb => ?_⟩
      simp at hb ha
      subst hb
      intro e; subst e; exact h2 ha
    · intro j hj
      simp only [List.reverse_cons, List.mem_append, List.mem_singleton] at hj
      rcases hj with hj | hj
      · exact hL.lt j hj
      · rw [hj]; exact h1
    · intro A j C he p hp
      simp only [List.reverse_cons] at he
      rcases List.eq_nil_or_concat C with rfl | ⟨C', c, rfl⟩
      · have := List.append_inj' he rfl
        obtain ⟨e1, e2⟩ := this
        cases e2
        rw [← e1]; simp; exact h3 p hp
      · have : acc.reverse ++ [i] = (A ++ j :: C') ++ [c] := by rw [he]; simp
        obtain ⟨e1, _⟩ := List.append_inj' this rfl
        exact hL.pre A j C' e1 p hp

theorem linearise_lin {ops : Array Oper} (hac : ∀ i, i < ops.size → ∀ p ∈ preds ops i, p < i) (t : Nat) : Lin ops (Region.linearise .any ops t) ∧ (Region.linearise .any ops t).length = ops.size := by
  unfold Region.linearise
  refine go_lin hac ops.size t _ [] (by simp) (fun i hi => ?_) (by simp) ⟨by simp, by simp, fun A i C h => by simp at h⟩
  simp [Array.getD_eq_getD_getElem?, hi]
theorem Lin.full {ops : Array Oper} {ord : List Nat} (h : Lin ops ord) (hl : ord.length = ops.size) : ∀ i, i < ops.size → i ∈ ord := by
  intro i hi
  apply Classical.byContradiction
  intro hn
  have hnd : (i :: ord).Nodup := List.nodup_cons.2 ⟨hn, h.nodup⟩
  have hsub : ∀ j ∈ i :: ord, j ∈ List.range ops.size := fun j hj => by
    rcases List.mem_cons.1 hj with rfl | hj
    · exact List.mem_range.2 hi
    · exact List.mem_range.2 (h.lt j hj)
  have := hnd.length_le_of_subset hsub
  simp at this
  omega
end Go.Md
end
