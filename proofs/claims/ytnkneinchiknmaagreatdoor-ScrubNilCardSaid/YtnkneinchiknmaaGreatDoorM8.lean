import Derived.Great.BuildSlice
import Derived.Laws.MakeOwn
import Derived.Test.YtnkneinchiknmaaGreatDoorM7
set_option linter.unusedVariables false
set_option linter.unusedSimpArgs false
set_option linter.unusedSectionVars false
section
/- APPEND, the whole of it. No condition. -/
namespace Go.Md
open Go.RowKit (Below)
variable {P : Program} {ft : FT} {B : Nat} {w0 w w' : World} {ρ ρ' : Rho} {h h' : T AO} {nx nx' : Nat}

theorem firstCells_at {w : World} {size len c b o : Nat} {olds : List Value} (hol : olds.length = len * size) (hc : ∀ j u, olds[j]? = some u → w.cell? ⟨b, o + j, none⟩ = some u) :
    (Builtin.firstCells size len (.slice (some ⟨b, o, none⟩) len c)).run P w = .ok olds.toArray w :=
  run_firstCells_some w size len ⟨b, o, none⟩ len c olds hol fun j u hu => by rw [add_addr]; exact hc j u hu

/-- the room is not known -/
theorem app_open {at_ : Array TypeId} {ty e : TypeId} {size : Nat} {z x : Value} {n : Nat} {news : List Value} (A : AppR P w at_ ty e size z x n news) (hz : z.cells.size = size) (R : Rel P ft B w0 ρ h nx w)
    {id off len : Nat} {oOld : AO} {g : Gh} (hg : h.get id = some oOld) (hρ : ρ id = some g) (hB : B ≤ g.b) {arr : Array Value} {el : TypeId} {fz : Nat × Nat} (hb : w.heap[g.b]? = some (.cells arr el fz)) (hsz : arr.size = g.sz) (hfz : fzOk fz arr.size)
    (he : g.e = size) {olds : List Value} (hol : olds.length = len * size) (hold : ∀ j u, olds[j]? = some u → w.cell? ⟨g.b, g.d + off + j, none⟩ = some u) {c : Nat} (hlc : len ≤ c) (hroom : g.d + off + c * g.e ≤ g.sz) (hm : len + n ≤ 67108864)
    {o : AO} (ho : OFits P ft ρ o size (olds ++ news)) : SOk P ft B w0 ρ w (Builtin.append_ at_ ty #[.slice (some ⟨g.b, g.d + off, none⟩) len c, x]) (.sl nx 0 (len + n) none) ((h.del id).set nx o) (nx + 1) := by
  by_cases hr : len + n ≤ c
  · have hnl := A.len
    have hfit : g.d + off + len * size + news.length ≤ arr.size := by
      rw [hnl, hsz, Nat.add_assoc, ← Nat.add_mul]
      have := Nat.mul_le_mul_right size hr
      rw [he] at hroom
      omega
    have hrun := A.room g.b (g.d + off) len c arr el fz hb hfz hfit hr
    obtain ⟨arr', hb', hsz', hget⟩ := setCells_heap g.b news (g.d + off + len * size) w arr hb hfit
    have hbl : g.b < w.heap.size := (R.dom _ _ hρ).2
    refine ⟨ρ.upd nx ⟨g.b, g.d + off, g.e, g.sz⟩, _, _, Rho.le_upd fun id g hh => (R.dom id g hh).1, hrun, ⟨_, _, Rho.upd_self _ _, rfl, hr, ?_⟩, ?_⟩
    · show g.d + off + 0 + c * g.e ≤ g.sz
      omega
    · refine (R.del id).put (g := ⟨g.b, g.d + off, g.e, g.sz⟩) (Diff.setCells hB hbl) (fun i oi gi hi hρi e1 => ?_) (ho _ _ _ arr' el fz (Rho.le_upd fun id g hh => (R.dom id g hh).1) hb' (by rw [hsz', hsz]) (by rw [hsz']; exact hfz) ?_ he ?_)
      · rw [T.get_del] at hi
        split at hi
        · cases hi
        · rename_i hne
          exact hne (R.inj i id oi oOld gi g hi hg hρi hρ e1).symm
      · show g.d + off + (olds ++ news).length ≤ g.sz
        rw [List.length_append, hol]; omega
      · refine setCells_get_olds (b := g.b) (arr := arr) (fun j hj => ?_) (by rw [hol]; exact hget)
        have e1 : olds[j]? = some olds[j] := List.getElem?_eq_getElem hj
        have := hold j _ e1
        rw [cell_of hb] at this
        rw [this, e1]
  · exact app_grow A hz (R.del id) (firstCells_at hol (by simpa using hold)) hol (by omega) hm ho

theorem byteVals_unpack (bits n : Nat) : VRelL ρ (unpackAV bits n) (byteVals bits n) :=
  VRelL.of_get (by rw [unpackAV_len, byteVals_length]) fun i v u hv hu => by
    obtain ⟨h1, rfl⟩ := unpackAV_get n bits i v hv
    rw [byteVals_get bits n i h1] at hu
    cases hu
    rfl
theorem allOne_unpack : ∀ (n bits : Nat), allOne (unpackAV bits n) = true
  | 0, _ => rfl
  | n+1, bits => by simp only [unpackAV, allOne, AV.one]; exact allOne_unpack n _
theorem packAV_unpack : ∀ (n bits : Nat), bits < 256 ^ n → packAV (unpackAV bits n) = some bits
  | 0, bits, h => by simp at h; subst h; rfl
  | n+1, bits, h => by
    have hm : Nat.mod bits 256 < 256 := Nat.mod_lt _ (by decide)
    have hd : Nat.div bits 256 < 256 ^ n := by
      show bits / 256 < 256 ^ n
      rw [Nat.div_lt_iff_lt_mul (by decide)]; rw [Nat.pow_succ] at h; exact h
    have hk : kEq IntKind.u8 IntKind.u8 = true := (kEq_iff _ _).2 rfl
    simp only [unpackAV, packAV, hk, blt_t hm, packAV_unpack n _ hd]
    congr 1
    show bits % 256 + bits / 256 * 256 = bits
    omega

theorem Rel.at (R : Rel P ft B w0 ρ h nx w) {id : Nat} {o : AO} (hg : h.get id = some o) {g : Gh} (hρ : ρ id = some g) : ORel P ft ρ w g o ∧ (isRo o = true ∨ B ≤ g.b) := by
  obtain ⟨g', h1, h2, h3⟩ := R.obj _ _ hg
  rw [hρ] at h1; cases h1
  exact ⟨h2, h3⟩

theorem srcB_ok (R : Rel P ft B w0 ρ h nx w) {id off len : Nat} {cap : Option Nat} {bits n : Nat} (hs : srcBytes h (.sl id off len cap) = some (bits, n)) {g : Gh} (hρ : ρ id = some g) :
    n = len ∧ bits < 256 ^ len ∧ (∃ bits0 m o, h.get id = some (.bytes bits0 m o)) ∧ (∀ j u, (byteVals bits len)[j]? = some u → w.cell? ⟨g.b, g.d + off + j, none⟩ = some u) := by
  simp only [srcBytes] at hs
  split at hs
  · rename_i bits0 m o hg
    split at hs
    · rename_i hle
      cases hs
      have hle' : off + len ≤ m := le_of_ble hle
      obtain ⟨⟨arr, el, fz, hb, _, _, _, _, hc⟩, _⟩ := R.at hg hρ
      refine ⟨rfl, subB_lt _ _ _, ⟨bits0, m, o, hg⟩, fun j u hu => ?_⟩
      have hj : j < len := by
        have := (List.getElem?_eq_some_iff.1 hu).1
        rwa [byteVals_length] at this
      rw [byteVals_get _ _ _ hj, byt_subB _ _ _ _ hj] at hu
      cases hu
      rw [cell_of hb, show g.d + off + j = g.d + (off + j) from by omega, hc _ (by omega)]
    · cases hs
  · cases hs

theorem appBytes_ok {at_ : Array TypeId} {ty e : TypeId} {z x : Value} {n bits : Nat} (A : AppR P w at_ ty e 1 z x n (byteVals bits n)) (hz : z.cells.size = 1) (hbits : bits < 256 ^ n) (R : Rel P ft B w0 ρ h nx w) {s : AV} {u : Value} (hs : VRel ρ s u)
    {v : AV} (hq : appBytes h nx s bits n = some (v, h', nx')) : SOk P ft B w0 ρ w (Builtin.append_ at_ ty #[u, x]) v h' nx' := by
  have grow : ∀ {old : Option Nat} {hh : T AO} {b m : Nat}, growBytes hh nx old b m = some (v, h', nx') → m ≤ 67108864 ∧ v = .sl nx 0 m none ∧ h' = ((match old with | some id => hh.del id | none => hh) : T AO).set nx (.bytes b m true) ∧ nx' = nx + 1 := by
    intro old hh b m hq
    unfold growBytes at hq
    split at hq
    · rename_i hle
      cases hq
      exact ⟨le_of_ble hle, rfl, rfl, rfl⟩
    · cases hq
  unfold appBytes at hq
  split at hq
  · cases hs
    split at hq
    · rename_i hn
      cases hq
      exact ⟨ρ, w, _, Rho.le.refl ρ, A.nothing (eq_of_beq' hn) none 0 0 (Nat.le_refl _), rfl, R⟩
    · rename_i hn
      obtain ⟨h1, rfl, rfl, rfl⟩ := grow hq
      have hn' := ne_of_beq' hn
      have := app_grow A hz R (base := none) (sLen := 0) (sCap := 0) (olds := []) (run_firstCells_none w.drew 1 0 0 0) (by simp) (by omega) (by omega) (o := .bytes bits n true) (by simpa using OFits.bytes bits n true)
      simpa using this
  · rename_i id off len cap
    obtain ⟨g, c, hρ, rfl, hlc, hcap⟩ := hs
    split at hq
    · rename_i hn
      cases hq
      exact ⟨ρ, w, _, Rho.le.refl ρ, A.nothing (eq_of_beq' hn) _ len c hlc, ⟨g, c, hρ, rfl, hlc, hcap⟩, R⟩
    · rename_i hn
      split at hq
      · rename_i c0
        have hcc : c = c0 := hcap
        subst hcc
        split at hq
        · rename_i hle
          have hle' : len + n ≤ c := le_of_ble hle
          split at hq
          · rename_i bits0 m o hg
            split at hq
            · rename_i hle2
              cases hq
              have hle2' : off + len + n ≤ m := le_of_ble hle2
              obtain ⟨⟨arr, el, fz, hb, hsz, hfz, hd, he, hc⟩, _⟩ := R.at hg hρ
              have hst : storeCells h id (Nat.add off len) (unpackAV bits n) = some (h.set id (.bytes (putB bits0 (Nat.add off len) n bits) m o)) := by
                simp only [storeCells, allOne_unpack, hg, unpackAV_len, packAV_unpack n bits hbits]
                rw [ble_t (by exact hle2')]
              obtain ⟨_, R'⟩ := storeCells_ok R hst hρ (byteVals_unpack bits n)
              have hrun := A.room g.b (g.d + off) len c arr el fz hb hfz (by rw [byteVals_length]; omega) hle'
              have e1 : g.d + off + len * 1 = g.d + Nat.add off len := by show _ = g.d + (off + len); omega
              rw [e1] at hrun
              exact ⟨ρ, _, _, Rho.le.refl ρ, hrun, ⟨g, c, hρ, rfl, hle', rfl⟩, R'⟩
            · cases hq
          · cases hq
        · rename_i hle
          have hgt : c < len + n := Nat.lt_of_not_le fun hh => by rw [ble_t (show Nat.add len n ≤ c from hh)] at hle; cases hle
          split at hq
          · rename_i o k hsb
            obtain ⟨rfl, ho, _, hcells⟩ := srcB_ok R hsb hρ
            obtain ⟨h1, rfl, rfl, rfl⟩ := grow hq
            have := app_grow A hz R (firstCells_at (b := g.b) (o := g.d + off) (c := c) (len := k) (olds := byteVals o k) (by simp [byteVals_length]) (by simpa using hcells)) (by simp [byteVals_length]) hgt h1 (o := .bytes (catB o k bits) (k + n) true)
              (by rw [← byteVals_cat ho]; exact OFits.bytes _ _ _)
            exact this
          · cases hq
      · split at hq
        · rename_i o k hsb
          obtain ⟨rfl, ho, ⟨bits0, m, oo, hg⟩, hcells⟩ := srcB_ok R hsb hρ
          obtain ⟨h1, rfl, rfl, rfl⟩ := grow hq
          obtain ⟨⟨arr, el, fz, hb, hsz, hfz, hd, he, hc⟩, hB⟩ := R.at hg hρ
          have hB' : B ≤ g.b := by
            rcases hB with hB | hB
            · cases hB
            · exact hB
          exact app_open A hz R hg hρ hB' hb hsz hfz he (by simp [byteVals_length]) hcells hlc hcap h1 (o := .bytes (catB o k bits) (k + n) true) (by rw [← byteVals_cat ho]; exact OFits.bytes _ _ _)
        · cases hq
  · cases hq

theorem srcC_ok (R : Rel P ft B w0 ρ h nx w) {id off len esz : Nat} {cap : Option Nat} {vs : List AV} {n : Nat} (hs : srcCells h esz (.sl id off len cap) = some (vs, n)) {g : Gh} (hρ : ρ id = some g) :
    n = len ∧ ∃ us, VRelL ρ vs us ∧ us.length = len * esz ∧ (∀ j u, us[j]? = some u → w.cell? ⟨g.b, g.d + off + j, none⟩ = some u) := by
  simp only [srcCells] at hs
  split at hs
  · rename_i l m ro o e hg
    split at hs
    · rename_i hle
      split at hs
      · rename_i vs' hr
        cases hs
        refine ⟨rfl, ?_⟩
        have : loadCells h id off (Nat.mul len esz) = some vs := by simp only [loadCells, hg, hle, hr]
        obtain ⟨us, h1, h2, h3⟩ := loadCells_ok R this hρ
        exact ⟨us, h1, h2, h3⟩
      · cases hs
    · cases hs
  · cases hs

theorem appCells_ok {at_ : Array TypeId} {ty e : TypeId} {esz : Nat} {z x : Value} {n : Nat} {vs : List AV} {news : List Value} (A : AppR P w at_ ty e esz z x n news) (hz : z.cells.size = esz) (hvs : VRelL ρ vs news) (R : Rel P ft B w0 ρ h nx w) {s : AV} {u : Value} (hs : VRel ρ s u)
    {v : AV} (hq : appCells h nx esz s vs n = some (v, h', nx')) : SOk P ft B w0 ρ w (Builtin.append_ at_ ty #[u, x]) v h' nx' := by
  have grow : ∀ {old : Option Nat} {hh : T AO} {b : List AV} {m : Nat}, growCells hh nx esz old b m = some (v, h', nx') → m ≤ 67108864 ∧ v = .sl nx 0 m none ∧ h' = ((match old with | some id => hh.del id | none => hh) : T AO).set nx (.cells (treeOf b) b.length false true esz) ∧ nx' = nx + 1 := by
    intro old hh b m hq
    unfold growCells at hq
    split at hq
    · rename_i hle
      cases hq
      exact ⟨le_of_ble hle, rfl, rfl, rfl⟩
    · cases hq
  unfold appCells at hq
  split at hq
  · cases hs
    split at hq
    · rename_i hn
      cases hq
      exact ⟨ρ, w, _, Rho.le.refl ρ, A.nothing (eq_of_beq' hn) none 0 0 (Nat.le_refl _), rfl, R⟩
    · rename_i hn
      split at hq
      · obtain ⟨h1, rfl, rfl, rfl⟩ := grow hq
        have hn' := ne_of_beq' hn
        have := app_grow A hz R (base := none) (sLen := 0) (sCap := 0) (olds := []) (run_firstCells_none w.drew esz 0 0 0) (by simp) (by omega) (by omega) (o := .cells (treeOf vs) vs.length false true esz) (by simpa using OFits.cells hvs esz false true)
        simpa using this
      · cases hq
  · rename_i id off len cap
    obtain ⟨g, c, hρ, rfl, hlc, hcap⟩ := hs
    split at hq
    · rename_i hn
      cases hq
      exact ⟨ρ, w, _, Rho.le.refl ρ, A.nothing (eq_of_beq' hn) _ len c hlc, ⟨g, c, hρ, rfl, hlc, hcap⟩, R⟩
    · rename_i hn
      split at hq
      · cases hq
      · split at hq
        · rename_i c0
          have hcc : c = c0 := hcap
          subst hcc
          split at hq
          · rename_i hle
            have hle' : len + n ≤ c := le_of_ble hle
            split at hq
            · rename_i h2 hst
              cases hq
              obtain ⟨_, R'⟩ := storeCells_ok R hst hρ hvs
              have hst' := hst
              unfold storeCells at hst'
              have hrow : ∃ arr el fz, w.heap[g.b]? = some (.cells arr el fz) ∧ fzOk fz arr.size ∧ g.d + (off + len * esz) + vs.length ≤ arr.size := by
                split at hst'
                · cases hst'
                · split at hst'
                  · rename_i l m ro o e hg
                    split at hst'
                    · cases hst'
                    · split at hst'
                      · rename_i hle3
                        obtain ⟨⟨arr, el, fz, hb, hsz, hfz, hd, he, hc⟩, _⟩ := R.at hg hρ
                        have h4 : off + len * esz + vs.length ≤ m := le_of_ble hle3
                        exact ⟨arr, el, fz, hb, hfz, by omega⟩
                      · cases hst'
                  · rename_i bits m o hg
                    split at hst'
                    · rename_i hle3
                      obtain ⟨⟨arr, el, fz, hb, hsz, hfz, hd, he, hc⟩, _⟩ := R.at hg hρ
                      have h4 : off + len * esz + vs.length ≤ m := le_of_ble hle3
                      exact ⟨arr, el, fz, hb, hfz, by omega⟩
                    · cases hst'
                  · cases hst'
              obtain ⟨arr, el, fz, hb, hfz, hfit⟩ := hrow
              have hrun := A.room g.b (g.d + off) len c arr el fz hb hfz (by rw [hvs.length]; omega) hle'
              have e1 : g.d + off + len * esz = g.d + Nat.add off (Nat.mul len esz) := by show _ = g.d + (off + len * esz); omega
              rw [e1] at hrun
              exact ⟨ρ, _, _, Rho.le.refl ρ, hrun, ⟨g, c, hρ, rfl, hle', rfl⟩, R'⟩
            · cases hq
          · rename_i hle
            have hgt : c < len + n := Nat.lt_of_not_le fun hh => by rw [ble_t (show Nat.add len n ≤ c from hh)] at hle; cases hle
            split at hq
            · rename_i o k hsb
              obtain ⟨rfl, us, hus, hul, hcells⟩ := srcC_ok R hsb hρ
              obtain ⟨h1, rfl, rfl, rfl⟩ := grow hq
              exact app_grow A hz R (firstCells_at (b := g.b) (o := g.d + off) (c := c) (len := k) hul (by simpa using hcells)) hul hgt h1 (o := .cells (treeOf (o ++ vs)) (o ++ vs).length false true esz) (OFits.cells (hus.append hvs) esz false true)
            · cases hq
        · split at hq
          · rename_i ro _ e0 hg
            split at hq
            · cases hq
            · split at hq
              · rename_i he0
                have he0' := eq_of_beq' he0
                subst he0'
                split at hq
                · rename_i o k hsb
                  obtain ⟨rfl, us, hus, hul, hcells⟩ := srcC_ok R hsb hρ
                  obtain ⟨h1, rfl, rfl, rfl⟩ := grow hq
                  obtain ⟨⟨arr, el, fz, hb, hsz, hfz, hd, he, hc⟩, hB⟩ := R.at hg hρ
                  have hB' : B ≤ g.b := by
                    rcases hB with hB | hB
                    · cases hB
                    · exact hB
                  exact app_open A hz R hg hρ hB' hb hsz hfz he hul hcells hlc hcap h1 (o := .cells (treeOf (o ++ vs)) (o ++ vs).length false true e0) (OFits.cells (hus.append hvs) e0 false true)
                · cases hq
              · cases hq
          · cases hq
  · cases hq
end Go.Md
end
section
/- MAPS: an entry written, taken out. No condition. -/
namespace Go.Md
open Go.RowKit (Below)
variable {P : Program} {ft : FT} {B : Nat} {w0 w w' : World} {ρ ρ' : Rho} {h h' : T AO} {nx nx' : Nat}

theorem ksOk_fun {k : KS} {x : AV} {u v : Value} (hk : ksOk k x = true) (hu : VRel ρ x u) (hv : VRel ρ x v) : u = v ∧ ∀ n, Instr.sameBits n u u = true := by
  cases k with
  | int k => obtain ⟨n, rfl⟩ := ksOk_int hk; cases hu; cases hv; exact ⟨rfl, fun n => by cases n <;> simp [Instr.sameBits]⟩
  | str => obtain ⟨b, n, rfl⟩ := ksOk_str hk; obtain ⟨_, rfl⟩ := hu; obtain ⟨_, rfl⟩ := hv; exact ⟨rfl, fun n => by cases n <;> (rw [Instr.sameBits, beq_toListBytes]; simp)⟩
  | bool => obtain ⟨b, rfl⟩ := ksOk_bool hk; cases hu; cases hv; exact ⟨rfl, fun n => by cases n <;> simp [Instr.sameBits]⟩
theorem ksOkL_fun : ∀ {l : List KS} {m : List AV} {a b : List Value}, ksOkL l m = true → VRelL ρ m a → VRelL ρ m b → a = b ∧ ∀ n, (a.zip a).all (fun (x, y) => Instr.sameBits n x y) = true
  | [], [], a, b, _, ha, hb => by cases ha; cases hb; simp
  | [], _ :: _, _, _, h, _, _ => by simp [ksOkL] at h
  | _ :: _, [], _, _, h, _, _ => by simp [ksOkL] at h
  | k :: l, x :: m, a, b, h, ⟨y, s, e, h1, h2⟩, ⟨y', s', e', h1', h2'⟩ => by
    simp only [ksOkL] at h
    split at h
    · rename_i hk
      obtain ⟨rfl, e1⟩ := ksOk_fun hk h1 h1'
      obtain ⟨rfl, e2⟩ := ksOkL_fun h h2 h2'
      subst e; subst e'
      exact ⟨rfl, fun n => by simp only [List.zip_cons_cons, List.all_cons, e1, e2 n, Bool.and_self]⟩
    · cases h
theorem shOk_fun {s : KSh} {x : AV} {u v : Value} (hs : shOk s x = true) (hu : VRel ρ x u) (hv : VRel ρ x v) : u = v ∧ Instr.sameBits 10000 u u = true := by
  cases s with
  | one k => obtain ⟨h1, h2⟩ := ksOk_fun (shOk_one hs) hu hv; exact ⟨h1, h2 _⟩
  | agg l =>
    obtain ⟨m, rfl, hm⟩ := shOk_agg hs
    obtain ⟨a, rfl, ha⟩ := hu
    obtain ⟨b, rfl, hb⟩ := hv
    obtain ⟨rfl, h2⟩ := ksOkL_fun hm ha hb
    refine ⟨rfl, ?_⟩
    have := h2 9999
    rw [show (10000 : Nat) = 9999 + 1 from rfl, Instr.sameBits]
    simpa using this

theorem ERelL.split : ∀ {es1 : List (AV × AV × Nat)} {x : AV × AV × Nat} {es2 : List (AV × AV × Nat)} {l : List MapEntry}, ERelL ρ (es1 ++ x :: es2) l → ∃ l1 e l2, l = l1 ++ e :: l2 ∧ ERelL ρ es1 l1 ∧ ERel ρ x e ∧ ERelL ρ es2 l2
  | [], x, es2, l, ⟨e, s, he, h1, h2⟩ => ⟨[], e, s, he, rfl, h1, h2⟩
  | y :: es1, x, es2, l, ⟨e, s, he, h1, h2⟩ => by
    obtain ⟨l1, e', l2, rfl, a, b, c⟩ := ERelL.split (es1 := es1) h2
    exact ⟨e :: l1, e', l2, he, ⟨e, l1, rfl, h1, a⟩, b, c⟩
theorem ERelL.app : ∀ {es1 es2 : List (AV × AV × Nat)} {l1 l2 : List MapEntry}, ERelL ρ es1 l1 → ERelL ρ es2 l2 → ERelL ρ (es1 ++ es2) (l1 ++ l2)
  | [], _, _, _, h, k => by cases h; exact k
  | _ :: _, _, _, _, ⟨e, s, he, h1, h2⟩, k => by subst he; exact ⟨e, _, rfl, h1, ERelL.app h2 k⟩

theorem mapFind_split {k v : AV} {n : Nat} : ∀ {es : List (AV × AV × Nat)}, mapFind k es = some (v, n) → ∃ es1 es2, es = es1 ++ (k, v, n) :: es2 ∧ mapDel k es = es1 ++ es2
  | [], h => by simp [mapFind] at h
  | e :: r, h => by
    simp only [mapFind] at h
    split at h
    · rename_i hb
      have := (AV.beq_iff _ _).1 hb
      obtain ⟨a, b⟩ := e
      simp at this h
      subst this; subst h
      exact ⟨[], r, rfl, by simp [mapDel, hb]⟩
    · rename_i hb
      obtain ⟨es1, es2, rfl, h2⟩ := mapFind_split h
      exact ⟨e :: es1, es2, rfl, by simp [mapDel, hb, h2]⟩
theorem mapDel_none {k : AV} : ∀ {es : List (AV × AV × Nat)}, mapFind k es = none → mapDel k es = es
  | [], _ => rfl
  | e :: r, h => by
    simp only [mapFind] at h
    split at h
    · cases h
    · rename_i hb
      simp [mapDel, hb, mapDel_none h]

theorem modify_mid {α : Type} (f : α → α) (e : α) (C : List α) : ∀ A : List α, (A ++ e :: C).modify A.length f = A ++ f e :: C
  | [] => by simp
  | a :: A => by simp [modify_mid f e C A]
theorem eraseIdx_mid {α : Type} (e : α) (C : List α) : ∀ A : List α, (A ++ e :: C).eraseIdx A.length = A ++ C
  | [] => by simp
  | a :: A => by simp [eraseIdx_mid e C A]
theorem split_at {α : Type} : ∀ (L : List α) (j : Nat) (e : α), L[j]? = some e → ∃ A C, L = A ++ e :: C ∧ A.length = j
  | [], j, e, h => by simp at h
  | x :: L, 0, e, h => by simp at h; subst h; exact ⟨[], L, rfl, rfl⟩
  | x :: L, j+1, e, h => by
    obtain ⟨A, C, rfl, h2⟩ := split_at L j e (by simpa using h)
    exact ⟨x :: A, C, rfl, by simp [h2]⟩

/-- the entry of a key that is found: where it stands on both sides -/
theorem map_split {es : List (AV × AV × Nat)} {k v : AV} {n : Nat} (hf : mapFind k es = some (v, n)) {ents l : List MapEntry} (hp : ents.Perm l) (he : ERelL ρ es l) (hds : (es.map (·.2.2)).Nodup) {j : Nat} {e : MapEntry} (hj : ents[j]? = some e) (hr : ERel ρ (k, v, n) e) :
    ∃ es1 es2 A C l1 l2, es = es1 ++ (k, v, n) :: es2 ∧ mapDel k es = es1 ++ es2 ∧ ents = A ++ e :: C ∧ A.length = j ∧ (A ++ C).Perm (l1 ++ l2) ∧ ERelL ρ es1 l1 ∧ ERelL ρ es2 l2 := by
  obtain ⟨es1, es2, hes, hdel⟩ := mapFind_split hf
  obtain ⟨A, C, hA, hAl⟩ := split_at _ _ _ hj
  rw [hes] at he hds
  obtain ⟨l1, e2, l2, rfl, r1, r2, r3⟩ := ERelL.split he
  have hborn : e.born = n := hr.2.2
  have hee : e = e2 := by
    have hm : e ∈ l1 ++ e2 :: l2 := hp.mem_iff.1 (by rw [hA]; simp)
    simp only [List.map_append, List.map_cons] at hds
    rw [List.nodup_append] at hds
    obtain ⟨d1, d2, d3⟩ := hds
    rcases List.mem_append.1 hm with hm | hm
    · obtain ⟨x, hx, r⟩ := r1.mem.1 e hm
      exact absurd (r.2.2.symm.trans hborn) (d3 x.2.2 (List.mem_map.2 ⟨x, hx, rfl⟩) n (by simp))
    · rcases List.mem_cons.1 hm with h | hm
      · exact h
      · obtain ⟨x, hx, r⟩ := r3.mem.1 e hm
        have : n ∈ es2.map (·.2.2) := List.mem_map.2 ⟨x, hx, by rw [← r.2.2, hborn]⟩
        exact absurd this (List.nodup_cons.1 d2).1
  subst hee
  refine ⟨es1, es2, A, C, l1, l2, hes, hdel, hA, hAl, ?_, r1, r3⟩
  rw [hA] at hp
  have := (List.perm_middle.symm.trans hp).trans List.perm_middle
  exact this.cons_inv

theorem Diff.setObj {b : Nat} (o : Obj) (hB : B ≤ b) (hl : b < w.heap.size) : Diff B b w { w with heap := w.heap.setIfInBounds b o } :=
  ⟨rfl, rfl, rfl, by simp, hB, by simpa using hl, fun k hk _ => by
    show (w.heap.setIfInBounds b o)[k]? = _
    rw [Array.getElem?_setIfInBounds_ne (by omega)]⟩
theorem setObj_self (b : Nat) (o : Obj) (hl : b < w.heap.size) : ({ w with heap := w.heap.setIfInBounds b o } : World).heap[b]? = some o := by
  show (w.heap.setIfInBounds b o)[b]? = _
  rw [Array.getElem?_setIfInBounds_self_of_lt hl]
theorem run_setObj {b : Nat} {o o' : Obj} (hb : w.heap[b]? = some o) (hc : ∀ a t f, o ≠ .cells a t f) : (Go.setObj b o').run P w = .ok () { w with heap := w.heap.setIfInBounds b o' } := by
  unfold Go.setObj Sem.run
  rw [hb]
  cases o <;> first | (exact absurd rfl (hc _ _ _)) | rfl

theorem mu_ok (R : Rel P ft B w0 ρ h nx w) {t kt e : TypeId} (ht : P.underlying t = some (.map kt e)) {s : KSh} (hs : keyShape P kt = some s) {vs : List AV} {v : AV} (hq : sMu s vs h nx = some (v, h', nx')) {us : List Value} (hv : VRelL ρ vs us) :
    ∃ m k x w', us = [m, k, x] ∧ (Instr.mapUpdate t m k x).run P w = .ok () w' ∧ v = .undef ∧ Rel P ft B w0 ρ h' nx' w' := by
  unfold sMu at hq
  split at hq
  · rename_i id k x
    obtain ⟨mv, kv, xv, rfl, hm, hk, hx⟩ := VRelL.three hv
    obtain ⟨g, hρ, rfl⟩ := hm
    split at hq
    · rename_i hsh
      split at hq
      · rename_i es c sh' hg
        split at hq
        · rename_i hse
          have := (shEq_iff _ _).1 hse
          subst this
          obtain ⟨ho, hB⟩ := R.at hg hρ
          have hB' : B ≤ g.b := by rcases hB with hB | hB
                                   · simp [isRo] at hB
                                   · exact hB
          have hbl : g.b < w.heap.size := (R.dom _ _ hρ).2
          obtain ⟨ents, l, hb, hp, he, hd, hds, hlt, hall⟩ := ho
          have hgo : (getObj g.b).run P w = .ok (.map ents c) w := by simp [getObj, Sem.run, hb]
          obtain ⟨f1, f2⟩ := find_map (P := P) (w := w) hs hk hsh hp he hd hall
          have hck := checkKey_ok (P := P) (w := w) hs hk hsh false 9998
          cases hmf : mapFind k es with
          | none =>
            simp only [hmf] at hq
            cases hq
            refine ⟨_, _, _, { w with heap := w.heap.setIfInBounds g.b (.map (ents.push { key := kv, val := xv, born := c }) (c + 1)) }, rfl, ?_, rfl, ?_⟩
            · simp only [Instr.mapUpdate, Sem.run_bind, run_und ht, Result.andThen_ok, hgo, hck, f1 hmf]
              exact run_setObj hb (fun _ _ _ h => by cases h)
            · refine R.upd hg hρ rfl (Diff.setObj _ hB' hbl) ⟨_, ⟨kv, xv, c⟩ :: l, setObj_self _ _ hbl, ?_, ⟨⟨kv, xv, c⟩, l, rfl, ⟨hk, hx, rfl⟩, he⟩, ?_, ?_, ?_, ?_⟩
              · rw [Array.toList_push]
                exact (List.perm_append_singleton _ _).trans (hp.cons _)
              · simp only [List.map_cons, List.nodup_cons]
                exact ⟨fun hm => by obtain ⟨x, hx, e⟩ := List.mem_map.1 hm; exact mapFind_none hmf x hx e, hd⟩
              · simp only [List.map_cons, List.nodup_cons]
                exact ⟨fun hm => by obtain ⟨x, hx, e⟩ := List.mem_map.1 hm; exact absurd (hlt x hx) (by omega), hds⟩
              · intro x hx
                show x.2.2 < c + 1
                rcases List.mem_cons.1 hx with rfl | hx
                · exact Nat.lt_succ_self c
                · have := hlt x hx; omega
              · intro x hx
                rcases List.mem_cons.1 hx with rfl | hx
                · exact hsh
                · exact hall x hx
          | some vn =>
            obtain ⟨v0, n0⟩ := vn
            simp only [hmf] at hq
            cases hq
            obtain ⟨j, e0, h1, h2, h3⟩ := f2 v0 n0 hmf
            obtain ⟨es1, es2, A, C, l1, l2, e1, e2, e3, e4, e5, e6, e7⟩ := map_split hmf hp he hds h2 h3
            obtain ⟨hke, hsb⟩ := shOk_fun hsh h3.1 hk
            have hkt : (Instr.keyThatStays e0.key kv).run P w = .ok kv w := by
              rw [← hke]
              simp [Instr.keyThatStays, hsb]
            have hej : ents[j]? = some e0 := by rw [← Array.getElem?_toList]; exact h2
            refine ⟨_, _, _, { w with heap := w.heap.setIfInBounds g.b (.map (ents.modify j fun e => { e with key := kv, val := xv }) c) }, rfl, ?_, rfl, ?_⟩
            · simp only [Instr.mapUpdate, Sem.run_bind, run_und ht, Result.andThen_ok, hgo, hck, h1, hej, Option.map_some, Option.getD_some, hkt]
              exact run_setObj hb (fun _ _ _ h => by cases h)
            · subst e1
              simp only [List.map_append, List.map_cons] at hd hds
              refine R.upd hg hρ rfl (Diff.setObj _ hB' hbl) ⟨_, { e0 with key := kv, val := xv } :: (l1 ++ l2), setObj_self _ _ hbl, ?_, ⟨_, _, rfl, ⟨hk, hx, h3.2.2⟩, ?_⟩, ?_, ?_, ?_, ?_⟩
              · rw [Array.toList_modify, e3, ← e4, modify_mid]
                exact List.perm_middle.trans (e5.cons _)
              · rw [e2]; exact e6.app e7
              · rw [e2]
                simp only [List.map_cons, List.map_append]
                exact (List.perm_middle.nodup_iff).1 hd
              · rw [e2]
                simp only [List.map_cons, List.map_append]
                exact (List.perm_middle.nodup_iff).1 hds
              · intro x hx
                rw [e2] at hx
                rcases List.mem_cons.1 hx with rfl | hx
                · exact hlt (k, v0, n0) (by simp)
                · exact hlt x (by rcases List.mem_append.1 hx with hx | hx <;> simp [hx])
              · intro x hx
                rw [e2] at hx
                rcases List.mem_cons.1 hx with rfl | hx
                · exact hsh
                · exact hall x (by rcases List.mem_append.1 hx with hx | hx <;> simp [hx])
        · cases hq
      · cases hq
    · cases hq
  · cases hq
theorem del_ok (R : Rel P ft B w0 ρ h nx w) {t kt e : TypeId} (ht : P.underlying t = some (.map kt e)) {s : KSh} (hs : keyShape P kt = some s) (ty : TypeId) {at_ : Array TypeId} (hat : at_[0]? = some t) {vs : List AV} {v : AV} (hq : sDel s vs h nx = some (v, h', nx')) {us : List Value} (hv : VRelL ρ vs us) :
    ∃ m k w', us = [m, k] ∧ (Builtin.delete_ at_ ty #[m, k]).run P w = .ok (.tuple #[]) w' ∧ v = .undef ∧ Rel P ft B w0 ρ h' nx' w' := by
  unfold sDel at hq
  split at hq
  · rename_i id k
    obtain ⟨mv, kv, rfl, hm, hk⟩ := VRelL.two hv
    obtain ⟨g, hρ, rfl⟩ := hm
    split at hq
    · rename_i hsh
      split at hq
      · rename_i es c sh' hg
        split at hq
        · rename_i hse
          have := (shEq_iff _ _).1 hse
          subst this
          cases hq
          obtain ⟨ho, hB⟩ := R.at hg hρ
          have hB' : B ≤ g.b := by rcases hB with hB | hB
                                   · simp [isRo] at hB
                                   · exact hB
          have hbl : g.b < w.heap.size := (R.dom _ _ hρ).2
          obtain ⟨ents, l, hb, hp, he, hd, hds, hlt, hall⟩ := ho
          have hgo : (getObj g.b).run P w = .ok (.map ents c) w := by simp [getObj, Sem.run, hb]
          obtain ⟨f1, f2⟩ := find_map (P := P) (w := w) hs hk hsh hp he hd hall
          have hck := checkKey_ok (P := P) (w := w) hs hk hsh ents.isEmpty 9998
          cases hmf : mapFind k es with
          | none =>
            refine ⟨_, _, { w with heap := w.heap.setIfInBounds g.b (.map ents c) }, rfl, ?_, rfl, ?_⟩
            · simp [Builtin.delete_, hat, run_und ht, hgo, hck, f1 hmf, run_setObj hb (fun _ _ _ h => by cases h)]
            · rw [mapDel_none hmf]
              exact R.upd hg hρ rfl (Diff.setObj _ hB' hbl) ⟨ents, l, setObj_self _ _ hbl, hp, he, hd, hds, hlt, hall⟩
          | some vn =>
            obtain ⟨v0, n0⟩ := vn
            obtain ⟨j, e0, h1, h2, h3⟩ := f2 v0 n0 hmf
            obtain ⟨es1, es2, A, C, l1, l2, e1, e2, e3, e4, e5, e6, e7⟩ := map_split hmf hp he hds h2 h3
            refine ⟨_, _, { w with heap := w.heap.setIfInBounds g.b (.map (ents.eraseIdxIfInBounds j) c) }, rfl, ?_, rfl, ?_⟩
            · simp [Builtin.delete_, hat, run_und ht, hgo, hck, h1, run_setObj hb (fun _ _ _ h => by cases h)]
            · subst e1
              simp only [List.map_append, List.map_cons] at hd hds
              have d1 := (List.perm_middle.nodup_iff).1 hd
              have d2 := (List.perm_middle.nodup_iff).1 hds
              rw [e2]
              refine R.upd hg hρ rfl (Diff.setObj _ hB' hbl) ⟨_, l1 ++ l2, setObj_self _ _ hbl, ?_, e6.app e7, ?_, ?_, ?_, ?_⟩
              · rw [Array.toList_eraseIdxIfInBounds, e3, ← e4, eraseIdx_mid]
                exact e5
              · rw [List.map_append]; exact (List.nodup_cons.1 d1).2
              · rw [List.map_append]; exact (List.nodup_cons.1 d2).2
              · exact fun x hx => hlt x (by rcases List.mem_append.1 hx with hx | hx <;> simp [hx])
              · exact fun x hx => hall x (by rcases List.mem_append.1 hx with hx | hx <;> simp [hx])
        · cases hq
      · cases hq
    · cases hq
  · cases hq
end Go.Md
end
section
/- WHAT MAKES: variables, slices, maps; copies. No condition. -/
namespace Go.Md
open Go.RowKit (Below)
variable {P : Program} {ft : FT} {B : Nat} {w0 w w' : World} {ρ ρ' : Rho} {h h' : T AO} {nx nx' : Nat}

theorem Rel.row (R : Rel P ft B w0 ρ h nx w) {us : List Value} {el : TypeId} {o : AO} {e : Nat} (ho : OFits P ft ρ o e us) :
    Rel P ft B w0 (ρ.upd nx ⟨w.heap.size, 0, e, us.length⟩) (h.set nx o) (nx + 1) (w.alloc (.cells us.toArray el)) :=
  R.new (obj := .cells us.toArray el) (ho _ _ _ _ _ (0, 0) (Rho.le_upd fun id g hh => (R.dom id g hh).1) (heap_alloc_new w _) (by simp) (.inl rfl) (by simp) rfl (fun j hj => by simp))
theorem Rel.le_new (R : Rel P ft B w0 ρ h nx w) (g : Gh) : ρ.le (ρ.upd nx g) := Rho.le_upd fun id g hh => (R.dom id g hh).1

theorem alloc_ok (R : Rel P ft B w0 ρ h nx w) {e : TypeId} {zs : List AV} (hz : zeroCells? P e = some zs) {vs : List AV} {v : AV} (hq : sAlloc zs vs h nx = some (v, h', nx')) (old : Value) : SOk P ft B w0 ρ w (Instr.alloc e true old) v h' nx' := by
  unfold sAlloc at hq
  split at hq
  · unfold newObj at hq
    cases hq
    unfold zeroCells? at hz
    cases hzo : zeroOf P e with
    | none => simp [hzo] at hz
    | some a =>
      simp [hzo] at hz
      subst hz
      obtain ⟨zv, hr, hzr, _⟩ := zeroOf_rel (P := P) (w := w) (ρ := ρ) hzo
      refine ⟨_, _, .pointer (some ⟨w.heap.size, 0, none⟩), R.le_new ⟨w.heap.size, 0, 1, zv.cells.toList.length⟩, by simp [Instr.alloc, hr, newVar, newRow]; rfl, ⟨_, Rho.upd_self _ _, rfl⟩, ?_⟩
      have := R.row (el := e) (OFits.cells hzr.cells 1 false false)
      simpa using this
  · cases hq

theorem box_ok (R : Rel P ft B w0 ρ h nx w) {e : TypeId} {vs : List AV} {v : AV} (hq : sBox vs h nx = some (v, h', nx')) {us : List Value} (hv : VRelL ρ vs us) : ∃ x, us = [x] ∧ SOk P ft B w0 ρ w (Instr.box e x) v h' nx' := by
  unfold sBox at hq
  split at hq
  · rename_i x
    obtain ⟨u, rfl, hx⟩ := VRelL.one hv
    refine ⟨u, rfl, ?_⟩
    split at hq
    · unfold newObj at hq
      cases hq
      refine ⟨_, _, .pointer (some ⟨w.heap.size, 0, none⟩), R.le_new ⟨w.heap.size, 0, 1, u.cells.toList.length⟩, by simp [Instr.box, newVar, newRow]; rfl, ⟨_, Rho.upd_self _ _, rfl⟩, ?_⟩
      have := R.row (el := e) (OFits.cells hx.cells 1 false false)
      simpa using this
    · cases hq
  · cases hq

theorem mkm_ok (R : Rel P ft B w0 ρ h nx w) {t kt e : TypeId} (ht : P.underlying t = some (.map kt e)) {s : KSh} {vs : List AV} {v : AV} (hq : sMkm s vs h nx = some (v, h', nx')) {ev : Operand → Value} {r : Option Operand} (hv : VRelL ρ vs (r.toList.map ev)) : SOk P ft B w0 ρ w (Instr.makeMap t (r.map ev)) v h' nx' := by
  have fin : SOk P ft B w0 ρ w (do pure (.map (some (← Go.newObj (.map #[] 0))))) (.mp nx) (h.set nx (.map [] 0 s)) (nx + 1) := by
    refine ⟨_, _, .map (some w.heap.size), R.le_new ⟨w.heap.size, 0, 0, 0⟩, by simp; rfl, ⟨_, Rho.upd_self _ _, rfl⟩, ?_⟩
    have := R.new (obj := .map #[] 0) (o := .map [] 0 s) (e := 0) (sz := 0) ⟨#[], [], heap_alloc_new w _, by simp, rfl, by simp, by simp, by simp, by simp⟩
    simpa using this
  unfold sMkm newObj at hq
  split at hq
  · cases hq
    cases r with
    | none => simpa [Instr.makeMap] using fin
    | some x => simp [VRelL] at hv
  · cases hq
    cases r with
    | none => obtain ⟨_, _, e, _⟩ := hv; cases e
    | some x =>
      obtain ⟨y, hy, hx⟩ := VRelL.one hv
      simp at hy
      cases hx
      obtain ⟨ρ', w', u, a, b, c, d⟩ := fin
      refine ⟨ρ', w', u, a, ?_, c, d⟩
      simp only [Instr.makeMap, Option.map_some, hy, Sem.run_bind, run_und ht, Result.andThen_ok, asInt, asIntOf, Sem.run_pure]
      simpa using b
  · cases hq

theorem rngm_ok (R : Rel P ft B w0 ρ h nx w) {t kt e : TypeId} (ht : P.underlying t = some (.map kt e)) {vs : List AV} {v : AV} (hq : sRngm vs h nx = some (v, h', nx')) {us : List Value} (hv : VRelL ρ vs us) : ∃ x, us = [x] ∧ SOk P ft B w0 ρ w (Instr.range t x) v h' nx' := by
  unfold sRngm newObj at hq
  split at hq
  · obtain ⟨u, rfl, hx⟩ := VRelL.one hv
    cases hx
    cases hq
    refine ⟨_, rfl, _, _, .pointer (some ⟨w.heap.size, 0, none⟩), R.le_new ⟨w.heap.size, 0, 0, 0⟩, by simp [Instr.range, run_und ht]; rfl, ⟨_, Rho.upd_self _ _, rfl⟩, ?_⟩
    have := R.new (obj := .mapIter none 0 #[] 0) (o := .miter none 0 [] 0) (e := 0) (sz := 0) ⟨rfl, none, heap_alloc_new w _, rfl⟩
    simpa using this
  · rename_i id
    obtain ⟨u, rfl, g, hρ, rfl⟩ := VRelL.one hv
    split at hq
    · rename_i es c sh hg
      cases hq
      obtain ⟨⟨ents, l, hb, _⟩, _⟩ := R.at hg hρ
      have hgo : (getObj g.b).run P w = .ok (.map ents c) w := by simp [getObj, Sem.run, hb]
      refine ⟨_, rfl, _, _, .pointer (some ⟨w.heap.size, 0, none⟩), R.le_new ⟨w.heap.size, 0, 0, 0⟩, by simp [Instr.range, run_und ht, hgo]; rfl, ⟨_, Rho.upd_self _ _, rfl⟩, ?_⟩
      have := R.new (obj := .mapIter (some g.b) c #[] c) (o := .miter (some id) c [] c) (e := 0) (sz := 0) ⟨rfl, some g.b, heap_alloc_new w _, g, R.le_new _ _ _ hρ, rfl⟩
      simpa using this
    · cases hq
  · cases hq

theorem st_ok (R : Rel P ft B w0 ρ h nx w) {t : TypeId} {n : Nat} (hs : szOf P t = some n) {vs : List AV} {v : AV} (hq : sSt n vs h nx = some (v, h', nx')) {us : List Value} (hv : VRelL ρ vs us) :
    ∃ a x w', us = [a, x] ∧ (Instr.storeAt t a x).run P w = .ok () w' ∧ v = .undef ∧ Rel P ft B w0 ρ h' nx' w' := by
  unfold sSt at hq
  split at hq
  · rename_i id off x
    obtain ⟨av, xv, rfl, ha, hx⟩ := VRelL.two hv
    obtain ⟨g, hρ, rfl⟩ := ha
    split at hq
    · rename_i hn
      split at hq
      · rename_i h2 hst
        cases hq
        obtain ⟨h1, R'⟩ := storeCells_ok R hst hρ hx.cells
        have hlen : xv.cells.size = n := by
          rw [← eq_of_beq' hn, ← hx.cells.length]; simp
        refine ⟨_, _, _, rfl, ?_, rfl, R'⟩
        simp only [Instr.storeAt, Instr.sureAddr, Sem.run_bind, Sem.run_pure, Result.andThen_ok, storeVar, run_size hs, hlen, ne_eq, not_true_eq_false, if_false]
        exact h1
      · cases hq
    · cases hq
  · cases hq

theorem repl_length (zs : List AV) : ∀ n, (repl zs n).length = n * zs.length
  | 0 => by simp [repl]
  | n+1 => by simp [repl, repl_length zs n, Nat.add_mul]; omega
theorem madeRel {zs : List AV} {z : Array Value} (hz : VRelL ρ zs z.toList) (hp : 0 < z.size) (n : Nat) : VRelL ρ (repl zs n) ((Array.range (n * z.size)).map (z[· % z.size]!)).toList := by
  have hzl := hz.length
  simp only [Array.length_toList] at hzl
  have hget : ∀ n (i : Nat) v, (repl zs n)[i]? = some v → zs[i % zs.length]? = some v := by
    intro n
    induction n with
    | zero => intro i v h; simp [repl] at h
    | succ n ih =>
      intro i v h
      simp only [repl] at h
      by_cases h1 : i < zs.length
      · rw [List.getElem?_append_left h1] at h
        rw [Nat.mod_eq_of_lt h1]; exact h
      · rw [List.getElem?_append_right (by omega)] at h
        have := ih _ _ h
        rwa [← Nat.mod_eq_sub_mod (by omega)] at this
  refine VRelL.of_get (by simp [repl_length, hzl]) fun i v u hv hu => ?_
  have h1 := hget n i v hv
  obtain ⟨u', h2, h3⟩ := hz.get _ _ h1
  simp only [Array.toList_map, List.getElem?_map, Array.getElem?_toList] at hu
  obtain ⟨k, hk, hu2⟩ := Option.map_eq_some_iff.1 hu
  have hki : k = i := by
    have := (Array.getElem?_eq_some_iff.1 hk).2
    simpa using this.symm
  subst hki
  rw [← hzl] at h2
  have hlt : k % z.size < z.size := Nat.mod_lt _ hp
  rw [getElem!_pos z _ hlt] at hu2
  rw [Array.getElem?_toList, Array.getElem?_eq_getElem hlt] at h2
  cases h2
  rw [← hu2]; exact h3

theorem mks_ok (R : Rel P ft B w0 ρ h nx w) {t e : TypeId} (ht : P.underlying t = some (.slice e)) {b : Bool} {esz : Nat} {zs : List AV} (he : elT P e = some (b, esz, zs)) {vs : List AV} {v : AV} (hq : sMks b esz zs vs h nx = some (v, h', nx')) {us : List Value} (hv : VRelL ρ vs us) :
    ∃ l c, us = [l, c] ∧ SOk P ft B w0 ρ w (Instr.makeSlice t l c) v h' nx' := by
  obtain ⟨⟨E⟩, hby⟩ := elT_spec he
  unfold sMks at hq
  split at hq
  · rename_i k l k' c
    obtain ⟨u1, u2, rfl, h1, h2⟩ := VRelL.two hv
    cases h1; cases h2
    refine ⟨_, _, rfl, ?_⟩
    split at hq
    · rename_i hlc
      have hlc' : l ≤ c := le_of_ble hlc
      split at hq
      · rename_i hc
        have hc' : c ≤ 1048576 := le_of_ble hc
        have hbytes : ((E.i.bytes : Nat) : Int) * (Int.ofNat c) ≤ 281474976710656 := by
          have : E.i.bytes * c ≤ 1048576 * 1048576 := Nat.mul_le_mul E.bytes hc'
          have h2 : ((E.i.bytes * c : Nat) : Int) = (E.i.bytes : Int) * (c : Int) := Int.natCast_mul _ _
          have h3 : Int.ofNat c = (c : Int) := rfl
          rw [h3]; omega
        have hrun := run_make (P := P) w t e E.i E.z ht E.hi E.hz k k' (Int.ofNat l) (Int.ofNat c) (Int.natCast_nonneg l) (by show (l : Int) ≤ (c : Int); omega) hbytes (by show (c : Int) ≤ _; omega)
        have hzsz : E.z.cells.size = esz := E.zsize
        have hp : 0 < E.z.cells.size := by rw [hzsz]; exact E.pos
        have hmr := madeRel (E.zrel ρ) hp c
        have hmc : madeCells E.z.cells ((Int.ofNat c).toNat * E.i.size) = ((Array.range (c * E.z.cells.size)).map (E.z.cells[· % E.z.cells.size]!)) := by
          simp [madeCells, E.size, hzsz]
        have hrl : (repl zs c).length = c * esz := by rw [repl_length, ← (E.zrel ρ).length]; simp [hzsz]
        rw [hmc] at hrun
        split at hq
        · obtain ⟨he1, hz1, _⟩ := hby rfl
          subst he1; subst hz1
          unfold newObj at hq
          cases hq
          refine ⟨_, _, _, R.le_new ⟨w.heap.size, 0, 1, ((Array.range (c * E.z.cells.size)).map (E.z.cells[· % E.z.cells.size]!)).toList.length⟩, hrun, ⟨_, _, Rho.upd_self _ _, rfl, hlc', rfl⟩, ?_⟩
          have hf : OFits P ft ρ (.bytes 0 c false) 1 ((Array.range (c * E.z.cells.size)).map (E.z.cells[· % E.z.cells.size]!)).toList := by
            have : ((Array.range (c * E.z.cells.size)).map (E.z.cells[· % E.z.cells.size]!)).toList = byteVals 0 c := by
              have hl := hmr.length
              rw [hrl] at hl
              apply List.ext_getElem?
              intro i
              by_cases hi : i < c
              · rw [byteVals_get _ _ _ hi]
                have hlt : i < (repl [AV.int IntKind.u8 (Int.ofNat 0)] c).length := by rw [hrl]; omega
                obtain ⟨u, hu1, hu2⟩ := hmr.get i _ (List.getElem?_eq_getElem hlt)
                have hz0 : ∀ n (i : Nat) v, (repl [AV.int IntKind.u8 (Int.ofNat 0)] n)[i]? = some v → v = .int .u8 (Int.ofNat 0) := by
                  intro n
                  induction n with
                  | zero => intro i v h; simp [repl] at h
                  | succ n ih =>
                    intro i v h
                    cases i with
                    | zero => simp [repl] at h; exact h.symm
                    | succ i => simp [repl] at h; exact ih i v h
                rw [hz0 c i _ (List.getElem?_eq_getElem hlt)] at hu2
                rw [hu1, hu2]
                simp [byt_def]
              · rw [List.getElem?_eq_none (by rw [hl]; omega), List.getElem?_eq_none (by rw [byteVals_length]; omega)]
            rw [this]
            exact OFits.bytes 0 c false
          exact R.row (el := e) hf
        · unfold newObj at hq
          cases hq
          refine ⟨_, _, _, R.le_new ⟨w.heap.size, 0, esz, ((Array.range (c * E.z.cells.size)).map (E.z.cells[· % E.z.cells.size]!)).toList.length⟩, hrun, ⟨_, _, Rho.upd_self _ _, rfl, hlc', rfl⟩, ?_⟩
          have := R.row (el := e) (OFits.cells hmr esz false false)
          rw [hrl] at this
          exact this
      · cases hq
    · cases hq
  · cases hq
end Go.Md
end
