/- New slices, structs. No condition. -/
import Derived.Test.YtfhpoffgnpgagaaAbsH
set_option linter.unusedSimpArgs false
set_option linter.unusedVariables false
namespace Go.Abs

def rowZ (z : List PV) (n : Nat) : List PV := (List.replicate n z).flatten
def bytesT (P : Program) (e : TypeId) : Nat := ((P.info? e).map (·.bytes)).getD 0

theorem rowZ_length (z : List PV) (n : Nat) : (rowZ z n).length = n * z.length := by simp [rowZ]
theorem rowZ_one (x : PV) (n : Nat) : rowZ [x] n = List.replicate n x := by
  induction n with
  | zero => rfl
  | succ n ih => simp only [rowZ, List.replicate_succ, List.flatten_cons] at ih ⊢; rw [ih]; rfl

theorem rowZ_get (z : List PV) : ∀ (n i : Nat), i < n * z.length → (rowZ z n)[i]? = z[i % z.length]?
  | 0, i, h => by simp at h
  | n + 1, i, h => by
    have e : rowZ z (n + 1) = z ++ rowZ z n := by simp [rowZ, List.replicate_succ]
    rw [e, List.getElem?_append]
    split
    · rename_i hi; rw [Nat.mod_eq_of_lt hi]
    · rename_i hi
      have h' : i < n * z.length + z.length := by rw [Nat.add_mul, Nat.one_mul] at h; exact h
      rw [rowZ_get z n (i - z.length) (by omega), Nat.mod_eq_sub_mod (a := i) (b := z.length) (by omega)]

/-- make. -/
def fMake (P : Program) (hp : HP) (t : TypeId) (x y : PV) (id : Nat) : Out :=
  match elemT P t, x, y with
  | some e, .d _ (.int _ z), .d _ (.int _ z') => match zeroT P e with
    | some zs => (z' = z ∧ 0 ≤ z ∧ 0 < szOf P e ∧ zs.length = szOf P e ∧ z ≤ 9223372036854775807 ∧ (bytesT P e : Int) * z ≤ 281474976710656, ⟨.own id ((hp id).1 + 1) 0 z.toNat, some (id, (hp id).1 + 1, some (.cells e (rowZ zs z.toNat)))⟩)
    | none => no
  | _, _, _ => no

section
variable {C : Ctx} {s : ASt} {a : Act} {w : World}

theorem run_makeSlice_n {P : Program} {t e : TypeId} (hu : P.underlying t = some (.slice e)) {i : TypeInfo} {z : Value} (hi : P.info? e = some i) (hz : i.zero = some z) (k k' : IntKind) (n : Int)
    (h0 : 0 ≤ n) (h1 : n ≤ 9223372036854775807) (h2 : (i.bytes : Int) * n ≤ 281474976710656) (hsz : 0 < i.size) :
    ∃ zc : Array Value, (n.toNat * i.size ≠ 0 → zc = z.cells) ∧ (Instr.makeSlice t (.int k n) (.int k' n)).run P w = .ok (.slice (some ⟨w.heap.size, 0, none⟩) n.toNat n.toNat) (w.alloc (.cells ((Array.range (n.toNat * i.size)).map (zc[· % zc.size]!)) e)) := by
  have hw : IntKind.i64.wrap n = n := by simp [IntKind.wrap, IntKind.bits, IntKind.signed]; omega
  have hn0 : ¬ n < 0 := by omega
  have hb : ¬ (i.bytes : Int) * n > 2 ^ 48 := by omega
  have hnn : ¬ n > n := by omega
  by_cases hz0 : n.toNat * i.size = 0
  · refine ⟨#[], fun h => absurd hz0 h, ?_⟩
    have : n = 0 := by
      rcases Nat.mul_eq_zero.1 hz0 with h | h <;> omega
    subst this
    simp [Instr.makeSlice, run_underlying hu, asInt, asIntOf, typeInfo, hi, sizeOf, newRow, hw]
  · refine ⟨z.cells, fun _ => rfl, ?_⟩
    have hb' : ¬ (281474976710656 < (i.bytes : Int) * n) := by omega
    have hn3 : ¬ (n = 0 ∨ i.size = 0) := by
      rintro (h | h)
      · subst h; simp at hz0
      · omega
    simp [Instr.makeSlice, run_underlying hu, asInt, asIntOf, typeInfo, zeroValue, hz, hi, sizeOf, newRow, hw, hn0, hb', hz0]

theorem make_sound (r : Rel C s a w) {o : Oper} {K : Act → World → Prop} {Q : Exit → Act → World → Prop} (hd : ∀ d, o.dst = some d → d < C.n) {t : TypeId} {x y : Operand} (ho : o.op = .makeSlice t x y) (id : Nat) (hid : id < C.T)
    (hc : (fMake C.E0.P s.hp t (s.ev x) (s.ev y) id).1) (hk : ∀ a' w', Rel C (s.app o.dst (fMake C.E0.P s.hp t (s.ev x) (s.ev y) id).2) a' w' → K a' w') : o.wp C.E0.P a w K Q := by
  have he : (execOp a.eval o) = (do pure (.value (← Instr.makeSlice t (a.eval x) (a.eval y)))) := by unfold execOp; rw [ho]
  generalize hev : s.ev x = p at hc hk
  generalize hev2 : s.ev y = p2 at hc hk
  unfold fMake at hc hk
  split at hc <;> try (exact hc.elim)
  rename_i e kb k n kb2 k2 n2 hel
  simp only [hel] at hk
  split at hc <;> try (exact hc.elim)
  rename_i zs hzs
  simp only [hzs] at hk
  obtain ⟨rfl, h0, hsz, hzl, h1, h2⟩ := hc
  obtain ⟨i, z, hi, hz, hvl⟩ := zeroT_run hzs
  obtain ⟨g1, g2, ι, I, hat, henv⟩ := r
  have hv := V_ev henv x
  rw [hev] at hv
  have hv := V_int hv
  have hvy := V_ev henv y
  rw [hev2] at hvy
  have hvy := V_int hvy
  have esz : szOf C.E0.P e = i.size := by simp [szOf, hi]
  have eby : bytesT C.E0.P e = i.bytes := by simp [bytesT, hi]
  rw [esz] at hsz hzl
  rw [eby] at h2
  obtain ⟨zc, hzc, hrun⟩ := run_makeSlice_n (w := w) (elemT_run hel) hi hz k k2 n2 h0 h1 h2 hsz
  have hzcells : z.cells.size = i.size := by have := (hvl ⟨C.E0.P, s.hp, ι, I, C.E0.A, w.heap⟩).1; rw [hzl] at this; simpa using this.symm
  have hV : VL ⟨C.E0.P, s.hp, ι, I, C.E0.A, w.heap⟩ (rowZ zs n2.toNat) ((Array.range (n2.toNat * i.size)).map (zc[· % zc.size]!)).toList := by
    refine ⟨by simp [rowZ_length, hzl], fun j d v hd hvv => ?_⟩
    have hj : j < n2.toNat * i.size := by
      have := (List.getElem?_eq_some_iff.1 hd).1
      rwa [rowZ_length, hzl] at this
    have hne : n2.toNat * i.size ≠ 0 := by omega
    rw [hzc hne] at hvv
    rw [rowZ_get zs n2.toNat j (by rw [hzl]; exact hj), hzl] at hd
    have hmod : j % i.size < i.size := Nat.mod_lt _ hsz
    have hm2 : j % i.size < z.cells.size := by omega
    simp [hj, hzcells] at hvv
    rw [getElem!_pos z.cells _ hm2] at hvv
    refine (hvl _).2 (j % i.size) d v hd ?_
    simp [hm2, hvv]
  obtain ⟨q1, q2⟩ := hat.alloc id ((s.hp id).1 + 1) (by omega) e (rowZ zs n2.toNat) ((Array.range (n2.toNat * i.size)).map (zc[· % zc.size]!)) (by rw [take_self _ _ (by rw [rowZ_length, hzl]; simp)]; exact hV) (by rw [rowZ_length, hzl]; simp)
  unfold Oper.wp
  rw [he, hv, hvy]
  simp only [Sem.run_bind, hrun, Result.andThen_ok, Sem.run_pure]
  refine hk _ _ (Rel.obj g1 g2 henv q1 q2 hid hd ?_)
  refine own_new (heap_alloc_new w _) (Nat.le_refl _) (by simp [esz]) ?_
  unfold maxLen; omega

/-- The parts of a literal, laid into its cells. -/
def fillP (hp : HP) (place : Nat → Option (Nat × Nat)) : List (Nat × PV) → List PV → Prop × List PV
  | [], cells => (True, cells)
  | (i, x) :: rest, cells =>
    match place i, cellsOf x with
    | some (off, sz), some cs => ((cs.length = sz ∧ off + sz ≤ cells.length ∧ fitsP hp cs) ∧ (fillP hp place rest (setAt cells off cs)).1, (fillP hp place rest (setAt cells off cs)).2)
    | _, _ => (False, cells)

theorem foldl_set (off : Nat) : ∀ (l : List Value) (j : Nat) (cs : Array Value), off + j + l.length ≤ cs.size →
    (l.zipIdx j).foldl (fun cs (x : Value × Nat) => cs.setIfInBounds (off + x.2) x.1) cs = (cs.toList.take (off + j) ++ l ++ cs.toList.drop (off + j + l.length)).toArray
  | [], j, cs, _ => by simp
  | v :: l, j, cs, h => by
    simp only [List.length_cons] at h
    rw [List.zipIdx_cons, List.foldl_cons, foldl_set off l (j + 1) _ (by simp; omega)]
    congr 1
    have := list_seg_step cs.toList (off + j) v l (by simp; omega)
    simpa [Array.toList_setIfInBounds, Nat.add_assoc] using this

theorem fill_sound {E : AEnv} {place : Nat → Option (Nat × Nat)} : ∀ (parts : List (Nat × PV)) (vs : List (Nat × Value)) (cells : List PV) (c : Array Value), parts.length = vs.length →
    (∀ (j : Nat) p v, parts[j]? = some p → vs[j]? = some v → p.1 = v.1 ∧ V E p.2 v.2) → VL E cells c.toList → (fillP E.hp place parts cells).1 →
    ∃ c', Instr.fill place c vs = some c' ∧ VL E (fillP E.hp place parts cells).2 c'.toList
  | [], vs, cells, c, hl, _, hv, _ => by
    cases vs with
    | nil => exact ⟨c, rfl, hv⟩
    | cons _ _ => simp at hl
  | (i, x) :: rest, vs, cells, c, hl, hp, hv, hc => by
    cases vs with
    | nil => simp at hl
    | cons v vs =>
      obtain ⟨i', v⟩ := v
      obtain ⟨e1, hxv⟩ := hp 0 (i, x) (i', v) rfl rfl
      simp only at e1 hxv
      subst e1
      cases hpl : place i with
      | none => simp [fillP, hpl] at hc
      | some os =>
        obtain ⟨off, sz⟩ := os
        cases hcs : cellsOf x with
        | none => simp [fillP, hpl, hcs] at hc
        | some cs =>
          simp only [fillP, hpl, hcs] at hc ⊢
          obtain ⟨⟨h1, h2, h3⟩, h4⟩ := hc
          have hvl := VL_cells hxv hcs h3
          have hlv : v.cells.toList.length = sz := by rw [← hvl.1]; exact h1
          have hcl : cells.length = c.size := by simpa using hv.1
          have hsz : v.cells.size = sz := by simpa using hlv
          have hfold := foldl_set off v.cells.toList 0 c (by simp only [Nat.add_zero, hlv]; omega)
          simp only [Nat.add_zero, hlv] at hfold
          have hV : VL E (setAt cells off cs) (c.toList.take off ++ v.cells.toList ++ c.toList.drop (off + sz)) := by
            rw [setAt, h1]
            exact ((hv.take off).append hvl).append (hv.drop (off + sz))
          obtain ⟨c', hf, hV'⟩ := fill_sound rest vs (setAt cells off cs) (c.toList.take off ++ v.cells.toList ++ c.toList.drop (off + sz)).toArray (by simpa using hl)
            (fun j p u hj hu => hp (j + 1) p u (by simpa using hj) (by simpa using hu)) (by simpa using hV) h4
          refine ⟨c', ?_, hV'⟩
          unfold Instr.fill
          have hn : ¬ (v.cells.size ≠ sz || decide (off + v.cells.size > c.size)) = true := by simp [hsz]; omega
          simp only [hpl]
          rw [if_neg hn]
          have : v.cells.zipIdx.foldl (fun cs (x : Value × Nat) => cs.setIfInBounds (off + x.2) x.1) c = (c.toList.take off ++ v.cells.toList ++ c.toList.drop (off + sz)).toArray := by
            rw [← hfold]
            rw [← Array.foldl_toList, Array.toList_zipIdx]
          rw [← this] at hf
          exact hf

/-- A struct's fields: where each begins, how many cells it has. -/
def structT (P : Program) (t : TypeId) : Option (List (Nat × Nat)) :=
  match P.underlying t with
  | some (.struct fields) => fields.toList.mapM (fun f => (P.info? f.type).map fun i => (f.offset, i.size))
  | _ => none

def arrT (P : Program) (t : TypeId) : Option (Nat × Nat) :=
  match P.underlying t with
  | some (.array n e) => (P.info? e).map fun i => (n, i.size)
  | _ => none

def fBuild (P : Program) (hp : HP) (t : TypeId) (parts : List (Nat × PV)) : Out :=
  match zeroT P t with
  | some z => match structT P t with
    | some pl => ((fillP hp (pl[·]?) parts z).1, ⟨.agg (fillP hp (pl[·]?) parts z).2, none⟩)
    | none => match arrT P t with
      | some (_, n) => ((fillP hp (fun i => some (i * n, n)) parts z).1, ⟨.agg (fillP hp (fun i => some (i * n, n)) parts z).2, none⟩)
      | none => no
  | none => no

theorem structT_run {P : Program} {t : TypeId} {pl : List (Nat × Nat)} (h : structT P t = some pl) : ∃ fs : Array Field, P.underlying t = some (.struct fs) ∧ fs.toList.mapM (fun f => (P.info? f.type).map fun i => (f.offset, i.size)) = some pl := by
  unfold structT at h
  split at h
  · rename_i fs hu; exact ⟨fs, hu, h⟩
  · cases h

theorem arrT_run {P : Program} {t : TypeId} {m n : Nat} (h : arrT P t = some (m, n)) : ∃ e i, P.underlying t = some (.array m e) ∧ P.info? e = some i ∧ i.size = n := by
  unfold arrT at h
  split at h
  · rename_i k e hu
    cases hi : P.info? e with
    | none => simp [hi] at h
    | some i => simp [hi] at h; obtain ⟨rfl, rfl⟩ := h; exact ⟨e, i, hu, hi, rfl⟩
  · cases h

theorem fBuild_sound {P : Program} {E : AEnv} {w : World} {t : TypeId} {parts : List (Nat × PV)} {vs : List (Nat × Value)} (hl : parts.length = vs.length)
    (hp : ∀ (j : Nat) p v, parts[j]? = some p → vs[j]? = some v → p.1 = v.1 ∧ V E p.2 v.2) (hc : (fBuild P E.hp t parts).1) :
    (fBuild P E.hp t parts).2.o = none ∧ ∃ u, V E (fBuild P E.hp t parts).2.x u ∧ (Instr.build t vs.toArray).run P w = .ok u w := by
  unfold fBuild at hc ⊢
  cases hz : zeroT P t with
  | none => simp [hz, no] at hc
  | some zs =>
    obtain ⟨i, z, hi, hzz, hvl⟩ := zeroT_run hz
    simp only [hz] at hc ⊢
    cases hs : structT P t with
    | some pl =>
      simp only [hs] at hc ⊢
      obtain ⟨fs, hu, hm⟩ := structT_run hs
      obtain ⟨c', hf, hv⟩ := fill_sound parts vs zs z.cells hl hp (hvl E) hc
      refine ⟨trivial, .agg c', V_agg_of_VL hv, run_build w t _ c' ?_⟩
      have hm' : fs.toList.mapM (fun f => (P.info? f.type).map fun i => (f.offset, i.size)) = some pl := hm
      simp only [Program.built, hi, hu, hzz, hm']
      have : (fun (x : Nat) => pl.toArray[x]?) = (fun (x : Nat) => pl[x]?) := by funext x; simp
      rw [this]
      exact hf
    | none =>
      simp only [hs] at hc ⊢
      cases ha : arrT P t with
      | none => simp [ha, no] at hc
      | some mn =>
        obtain ⟨m, n⟩ := mn
        simp only [ha] at hc ⊢
        obtain ⟨e, ie, hu, hie, rfl⟩ := arrT_run ha
        obtain ⟨c', hf, hv⟩ := fill_sound parts vs zs z.cells hl hp (hvl E) hc
        refine ⟨trivial, .agg c', V_agg_of_VL hv, run_build w t _ c' ?_⟩
        simp only [Program.built, hi, hu, hzz, hie]
        exact hf

/-- A slice literal. -/
def fBuildSlice (P : Program) (hp : HP) (t : TypeId) (len : Nat) (parts : List (Nat × PV)) (id : Nat) : Out :=
  match elemT P t with
  | some e => match zeroT P e with
    | some z =>
      (0 < szOf P e ∧ z.length = szOf P e ∧ len * szOf P e ≤ 16777216 ∧ (fillP hp (fun i => some (i * szOf P e, szOf P e)) parts (rowZ z len)).1,
        ⟨.own id ((hp id).1 + 1) 0 len, some (id, (hp id).1 + 1, some (.cells e (fillP hp (fun i => some (i * szOf P e, szOf P e)) parts (rowZ z len)).2))⟩)
    | none => no
  | none => no

theorem buildSlice_sound (r : Rel C s a w) {o : Oper} {K : Act → World → Prop} {Q : Exit → Act → World → Prop} (hd : ∀ d, o.dst = some d → d < C.n) {t : TypeId} {len : Nat} {ps : Array (Nat × Operand)} (ho : o.op = .buildSlice t len ps) (id : Nat) (hid : id < C.T)
    (hc : (fBuildSlice C.E0.P s.hp t len (ps.toList.map fun p => (p.1, s.ev p.2)) id).1) (hk : ∀ a' w', Rel C (s.app o.dst (fBuildSlice C.E0.P s.hp t len (ps.toList.map fun p => (p.1, s.ev p.2)) id).2) a' w' → K a' w') : o.wp C.E0.P a w K Q := by
  have he : (execOp a.eval o) = (do pure (.value (← Instr.buildSlice t len (ps.map fun (i, x) => (i, a.eval x))))) := by unfold execOp; rw [ho]
  unfold fBuildSlice at hc hk
  cases hel : elemT C.E0.P t with
  | none => simp [hel, no] at hc
  | some e =>
    simp only [hel] at hc hk
    cases hzs : zeroT C.E0.P e with
    | none => simp [hzs, no] at hc
    | some zs =>
      simp only [hzs] at hc hk
      obtain ⟨hsz, hzl, h24, hc⟩ := hc
      obtain ⟨i, z, hi, hz, hvl⟩ := zeroT_run hzs
      obtain ⟨g1, g2, ι, I, hat, henv⟩ := r
      have esz : szOf C.E0.P e = i.size := by simp [szOf, hi]
      rw [esz] at hsz hzl h24 hc hk
      have hzcells : z.cells.size = i.size := by have := (hvl ⟨C.E0.P, s.hp, ι, I, C.E0.A, w.heap⟩).1; rw [hzl] at this; simpa using this.symm
      have hV0 : ∀ zc : Array Value, (len * i.size ≠ 0 → zc = z.cells) → VL ⟨C.E0.P, s.hp, ι, I, C.E0.A, w.heap⟩ (rowZ zs len) ((Array.range (len * i.size)).map (zc[· % zc.size]!)).toList := by
        intro zc hzc
        refine ⟨by simp [rowZ_length, hzl], fun j d v hd hvv => ?_⟩
        have hj : j < len * i.size := by
          have := (List.getElem?_eq_some_iff.1 hd).1
          rwa [rowZ_length, hzl] at this
        have hne : len * i.size ≠ 0 := by omega
        rw [hzc hne] at hvv
        rw [rowZ_get zs len j (by rw [hzl]; exact hj), hzl] at hd
        have hm2 : j % i.size < z.cells.size := by have := Nat.mod_lt j hsz; omega
        simp [hj, hzcells] at hvv
        rw [getElem!_pos z.cells _ hm2] at hvv
        refine (hvl _).2 (j % i.size) d v hd ?_
        simp [hm2, hvv]
      have hrun : ∃ c', (Instr.buildSlice t len (ps.map fun (i, x) => (i, a.eval x))).run C.E0.P w = .ok (.slice (some ⟨w.heap.size, 0, none⟩) len len) (w.alloc (.cells c' e)) ∧
          VL ⟨C.E0.P, s.hp, ι, I, C.E0.A, w.heap⟩ (fillP s.hp (fun k => some (k * i.size, i.size)) (ps.toList.map fun p => (p.1, s.ev p.2)) (rowZ zs len)).2 c'.toList := by
        have hparts : ∀ (j : Nat) p v, (ps.toList.map fun p => (p.1, s.ev p.2))[j]? = some p → (ps.map fun (i, x) => (i, a.eval x)).toList[j]? = some v → p.1 = v.1 ∧ V ⟨C.E0.P, s.hp, ι, I, C.E0.A, w.heap⟩ p.2 v.2 := by
          intro j p v hp hv
          rw [Array.toList_map, List.getElem?_map] at hv
          rw [List.getElem?_map] at hp
          cases hx : ps.toList[j]? with
          | none => simp [hx] at hp
          | some y => simp [hx] at hp hv; subst hp; subst hv; exact ⟨rfl, V_ev henv _⟩
        by_cases hz0 : len * i.size = 0
        · obtain ⟨c', hf, hv⟩ := fill_sound (place := fun k => some (k * i.size, i.size)) (ps.toList.map fun p => (p.1, s.ev p.2)) (ps.map fun (i, x) => (i, a.eval x)).toList (rowZ zs len) ((Array.range (len * i.size)).map ((#[] : Array Value)[· % (#[] : Array Value).size]!)) (by simp) hparts (hV0 #[] (fun h => absurd hz0 h)) hc
          refine ⟨c', ?_, hv⟩
          have hlen : len = 0 := by rcases Nat.mul_eq_zero.1 hz0 with h | h <;> omega
          subst hlen
          simp at hf
          simp [Instr.buildSlice, run_underlying (elemT_run hel), sizeOf, typeInfo, hi, newRow, hf]
        · obtain ⟨c', hf, hv⟩ := fill_sound (place := fun k => some (k * i.size, i.size)) (ps.toList.map fun p => (p.1, s.ev p.2)) (ps.map fun (i, x) => (i, a.eval x)).toList (rowZ zs len) ((Array.range (len * i.size)).map (z.cells[· % z.cells.size]!)) (by simp) hparts (hV0 z.cells (fun _ => rfl)) hc
          exact ⟨c', run_buildSlice w t e len _ c' i z (elemT_run hel) hi hz (by omega) hz0 hf, hv⟩
      obtain ⟨c', hr, hv⟩ := hrun
      have hcs : c'.size = len * i.size := by
        have hl1 : c'.toList.length = ((fillP s.hp (fun k => some (k * i.size, i.size)) (ps.toList.map fun p => (p.1, s.ev p.2)) (rowZ zs len)).2).length := hv.1.symm
        have key : ∀ (l : List (Nat × PV)) (cells : List PV), (fillP s.hp (fun k => some (k * i.size, i.size)) l cells).1 → (fillP s.hp (fun k => some (k * i.size, i.size)) l cells).2.length = cells.length := by
          intro l
          induction l with
          | nil => intro cells _; rfl
          | cons p l ih =>
            intro cells h
            obtain ⟨j, x⟩ := p
            simp only [fillP] at h ⊢
            cases hx : cellsOf x with
            | none => simp [hx] at h
            | some cs =>
              simp only [hx] at h ⊢
              rw [ih _ h.2, length_setAt _ _ _ (by omega)]
        rw [key _ _ hc, rowZ_length, hzl] at hl1
        simpa using hl1
      obtain ⟨q1, q2⟩ := hat.alloc id ((s.hp id).1 + 1) (by omega) e _ c' (by rw [take_self _ _ (by rw [hv.1])]; exact hv) (by rw [hv.1]; simp)
      unfold Oper.wp
      rw [he]
      simp only [Sem.run_bind, hr, Result.andThen_ok, Sem.run_pure]
      refine hk _ _ (Rel.obj g1 g2 henv q1 q2 hid hd ?_)
      refine own_new (heap_alloc_new w _) (Nat.le_refl _) (by rw [esz, hcs]) ?_
      unfold maxLen
      have : len ≤ len * i.size := Nat.le_mul_of_pos_right len hsz
      omega

end
end Go.Abs
