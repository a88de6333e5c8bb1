/- What a caller of the columns' work does with it: from nils to own slices; reads; all kept for good. No condition. -/
import Derived.Test.YtfhpoffgnpgagaaAbsWl
set_option linter.unusedSimpArgs false
set_option linter.unusedVariables false
namespace Go.Abs

/-- A call whose own objects are named from B on. -/
def mkT (n N T B : Nat) (P : Program) (hp : HP) (X : Ext) (h : B + n ≤ T) : Ctx := mkCn n N T P hp X (fun d => B + d) fun d hd => by omega

theorem goL_q {C : Ctx} {l : List (Nat × PV)} {gs : List (Option Tmp)} {rest : List Oper} {K : ASt → Prop} {ty : TypeId} {pos : String} {aft : Array Edge} {h : HP} {Q : PV → HP → Prop}
    {d : Nat} {fv : Operand} {as : Array Operand} {ats : Array TypeId} {f : FuncId} {first caps args args' : List PV} (hf : calleeP ((⟨envL l, h⟩ : ASt).ev fv) = some (f, first, caps)) (hargs : first ++ evs ⟨envL l, h⟩ as ++ caps = args) (hw : WkL args args') (he : enterOK C.E0.P f = true)
    (hd : dstOK C.n ⟨some d, .call ⟨.value fv, as, ats⟩, ty, pos, aft, none⟩ = true)
    (hA : ACalls C.E0.P f C.T args' h Q) (hk : ∀ r hp', Q r hp' → goL C gs rest ⟨envL ((d, r) :: l), hp'⟩ K) : goL C gs (⟨some d, .call ⟨.value fv, as, ats⟩, ty, pos, aft, none⟩ :: rest) ⟨envL l, h⟩ K := by
  rw [goL_call]
  refine ⟨hd, callL hf hargs he hd (ACalls.weak hw hA) fun r hp' hq => ?_⟩
  simp only [ASt.put, envL_upd]; exact hk r hp' hq

/-- The work as begin leaves it, turned so that its columns' parts are own slices. -/
theorem Gh.work {C : Ctx} {env : Nat → PV} {h : HP} {iW i2 i3 iC F k v1 v2 v3 v4 : Nat} {xs xp : PD} {l2 l3 : Nat} {R2 R3 : List PD} (hF : F + 3 * k ≤ C.T) (hd : iW ≠ i2 ∧ iW ≠ i3 ∧ iW ≠ iC ∧ i2 ≠ i3 ∧ i2 ≠ iC ∧ i3 ≠ iC) (hlt : iW < F ∧ i2 < F ∧ i3 < F ∧ iC < F)
    (h2 : (C.E0.hp i2).2 = none) (h3 : (C.E0.hp i3).2 = none) (sz3 : szOf C.E0.P 3 = 1) (q2 : l2 = R2.length) (q3 : l3 = R3.length)
    (e1 : h iW = (v1, some (.cells 72 [.d true xs, .d true xp, .own i2 v2 0 l2, .own i3 v3 0 l3, .own iC v4 0 k]))) (e2 : h i2 = (v2, some (.cells 3 (R2.map (PV.d true))))) (e3 : h i3 = (v3, some (.cells 3 (R3.map (PV.d true))))) (e4 : h iC = (v4, some (.cells 36 ((List.replicate (3 * k) PD.nil).map (PV.d true))))) :
    ∃ h', Gh C ⟨env, h⟩ ⟨env, h'⟩ ∧ h' iW = (v1, some (.cells 72 [.d true xs, .d true xp, .d true (.lst l2 R2), .d true (.lst l3 R3), .own iC v4 0 k])) ∧ WkF h' iC v4 F k (List.replicate k default) ∧
      ∀ id, id ≠ iW → id ≠ i2 → id ≠ i3 → id ≠ iC → ¬ (F ≤ id ∧ id < F + 3 * k) → h' id = h id := by
  obtain ⟨d1, d2, d3, d4, d5, d6⟩ := hd
  obtain ⟨t1, t2, t3, t4⟩ := hlt
  obtain ⟨ha, ha0⟩ : ∃ ha, ha = upd (upd h i2 (v2 + 1, none)) iW (v1, some (.cells 72 ([PV.d true xs, .d true xp, .own i2 v2 0 l2, .own i3 v3 0 l3, .own iC v4 0 k].set 2 (.d true (.lst l2 R2))))) := ⟨_, rfl⟩
  have g1 : Gh C ⟨env, h⟩ ⟨env, ha⟩ := by
    rw [ha0]; exact Gh.freeze_cell (C := C) (s := ⟨env, h⟩) i2 iW 2 (len := l2) (ds := R2) e2 h2 (toDs_true _) e1 d1 rfl (by rw [sz3, Nat.mul_one]; exact q2)
  have aW : ha iW = (v1, some (.cells 72 [.d true xs, .d true xp, .d true (.lst l2 R2), .own i3 v3 0 l3, .own iC v4 0 k])) := by rw [ha0]; exact upd_eq _ _ _
  have ao : ∀ id, id ≠ iW → id ≠ i2 → ha id = h id := fun id a b => by rw [ha0, upd_ne _ _ a, upd_ne _ _ b]
  have a3 : ha i3 = (v3, some (.cells 3 (R3.map (PV.d true)))) := (ao i3 (Ne.symm d2) (Ne.symm d4)).trans e3
  obtain ⟨hb, hb0⟩ : ∃ hb, hb = upd (upd ha i3 (v3 + 1, none)) iW (v1, some (.cells 72 ([PV.d true xs, .d true xp, .d true (.lst l2 R2), .own i3 v3 0 l3, .own iC v4 0 k].set 3 (.d true (.lst l3 R3))))) := ⟨_, rfl⟩
  have g12 : Gh C ⟨env, h⟩ ⟨env, hb⟩ := by
    refine g1.trans ?_
    rw [hb0]; exact Gh.freeze_cell (C := C) (s := ⟨env, ha⟩) i3 iW 3 (len := l3) (ds := R3) a3 h3 (toDs_true _) aW d2 rfl (by rw [sz3, Nat.mul_one]; exact q3)
  have bW : hb iW = (v1, some (.cells 72 [.d true xs, .d true xp, .d true (.lst l2 R2), .d true (.lst l3 R3), .own iC v4 0 k])) := by rw [hb0]; exact upd_eq _ _ _
  have bo : ∀ id, id ≠ iW → id ≠ i2 → id ≠ i3 → hb id = h id := fun id a b c => by
    rw [hb0, upd_ne _ _ a, upd_ne _ _ c]; exact ao id a b
  have bC : hb iC = (v4, some (.cells 36 (List.replicate (3 * k) (.d true .nil)))) := by
    rw [bo iC (Ne.symm d3) (Ne.symm d5) (Ne.symm d6), e4, List.map_replicate]
  obtain ⟨h', vs, g3, a, b, c⟩ := Gh.virtRow (C := C) (env := env) iC F v4 36 partT (3 * k) hF (fun i hi => by omega) bC (3 * k) (Nat.le_refl _)
  refine ⟨h', g12.trans g3, (c iW d3 (by omega)).trans bW, ⟨by simp, by omega, vs, ?_, fun j cj hj => ?_⟩, fun id n1 n2 n3 n4 n5 => (c id n4 n5).trans (bo id n1 n2 n3)⟩
  · rw [a, rowW_range, List.length_replicate, Nat.sub_self, List.replicate_zero, List.append_nil]
    congr 3
    refine List.map_congr_left fun i hi => ?_
    have hi := List.mem_range.1 hi
    have : (List.replicate k (default : Col)).getD (i / 3) default = default := by
      rw [List.getD_eq_getElem?_getD, List.getElem?_replicate]; split <;> rfl
    have : partL (List.replicate k default) i = 0 := by
      unfold partL; rw [this]; split
      · rfl
      · split <;> rfl
    rw [this]
  · rw [List.getElem?_replicate] at hj
    split at hj
    · rename_i hjk
      simp only [Option.some.injEq] at hj
      subst hj
      refine ⟨?_, ?_, ?_⟩
      · have := b (3 * j) (by omega); rw [this]; unfold partT; rw [if_neg (by omega)]; rfl
      · have := b (3 * j + 1) (by omega); rw [show F + 3 * j + 1 = F + (3 * j + 1) by omega, this]; unfold partT; rw [if_neg (by omega)]; rfl
      · have := b (3 * j + 2) (by omega); rw [show F + 3 * j + 2 = F + (3 * j + 2) by omega, this]; unfold partT; rw [if_pos (by omega)]; rfl
    · cases hj

/-- The columns, kept for good: a slot that held them holds data. -/
theorem Gh.workEnd {C : Ctx} {l : List (Nat × PV)} {h : HP} {iC vC F k t : Nat} {cols : List Col} (hW : WkF h iC vC F k cols) (ht : envL l t = .own iC vC 0 k) (h0 : ∀ id, FootW iC F k id → (C.E0.hp id).2 = none) (sz3 : szOf C.E0.P 3 = 1) (sz51 : szOf C.E0.P 51 = 2) (sz36 : szOf C.E0.P 36 = 3) :
    ∃ h', Gh C ⟨envL l, h⟩ ⟨envL ((t, .d true (.lst k (colsPD cols))) :: l), h'⟩ ∧ ∀ id, ¬ FootW iC F k id → h' id = h id := by
  obtain ⟨len, iF, vs, hC, hcols⟩ := hW
  have part : ∀ i, i < 3 * k → h (F + i) = (vs i, some (.cells (partT i) ((partD cols i).map (PV.d true)))) ∧ partL cols i * szOf C.E0.P (partT i) = (partD cols i).length := by
    intro i hi
    have hj : i / 3 < cols.length := by omega
    obtain ⟨a, b, c⟩ := hcols (i / 3) cols[i / 3] (by simp [hj])
    have hg : cols.getD (i / 3) default = cols[i / 3] := by simp [hj]
    have : i % 3 = 0 ∨ i % 3 = 1 ∨ i % 3 = 2 := by omega
    rcases this with e | e | e
    · have hT : partT i = 3 := by unfold partT; rw [if_neg (by omega)]
      have hL : partL cols i = cols[i / 3].r.length := by unfold partL; rw [if_pos e, hg]
      have hD : partD cols i = isD cols[i / 3].r := by unfold partD; rw [if_pos e, hg]
      rw [hT, hL, hD, sz3]
      refine ⟨?_, by rw [isD_length, Nat.mul_one]⟩
      rw [show F + i = F + 3 * (i / 3) by omega, a, show 3 * (i / 3) = i by omega]
    · have hT : partT i = 3 := by unfold partT; rw [if_neg (by omega)]
      have hL : partL cols i = cols[i / 3].d.length := by unfold partL; rw [if_neg (by omega), if_pos e, hg]
      have hD : partD cols i = isD cols[i / 3].d := by unfold partD; rw [if_neg (by omega), if_pos e, hg]
      rw [hT, hL, hD, sz3]
      refine ⟨?_, by rw [isD_length, Nat.mul_one]⟩
      rw [show F + i = F + 3 * (i / 3) + 1 by omega, b, show 3 * (i / 3) + 1 = i by omega]
    · have hT : partT i = 51 := by unfold partT; rw [if_pos e]
      have hL : partL cols i = cols[i / 3].v.length := by unfold partL; rw [if_neg (by omega), if_neg (by omega), hg]
      have hD : partD cols i = valsD cols[i / 3].v := by unfold partD; rw [if_neg (by omega), if_neg (by omega), hg]
      rw [hT, hL, hD, sz51]
      refine ⟨?_, by rw [valsD_len]⟩
      rw [show F + i = F + 3 * (i / 3) + 2 by omega, c, show 3 * (i / 3) + 2 = i by omega]
  rw [rowW_range, len] at hC
  obtain ⟨h1, g1, a1, c1⟩ := Gh.frzRow (C := C) (env := envL l) iC F vC 36 partT vs (partL cols) (partD cols) (3 * k) (fun i hi e => iF ⟨by omega, by omega⟩) (fun i hi => h0 _ (.inr ⟨by omega, by omega⟩)) (fun i hi => (part i hi).2) hC (fun i hi => (part i hi).1) (3 * k) (Nat.le_refl _)
  have a2 : h1 iC = (vC, some (.cells 36 ((colsPD cols).map (PV.d true)))) := by
    rw [a1]
    congr 3
    rw [List.drop_eq_nil_of_le (by simp), List.append_nil, ← colsPD_range, len, List.map_map]; rfl
  have g2 := Gh.freeze (C := C) (s := ⟨envL l, h1⟩) iC [t] a2 (h0 _ (.inl rfl)) (toDs_true (colsPD cols))
  have hlen : (colsPD cols).length = k * 3 := by rw [← len]; exact flat_length colPD 3 (fun _ => rfl) cols
  have e2 : setEnv (envL l) (frzV iC vC (szOf C.E0.P 36) (colsPD cols)) [t] = envL ((t, .d true (.lst k (colsPD cols))) :: l) := by
    apply envL_set
    rw [ht, sz36]
    have q1 : 0 + k * 3 ≤ (colsPD cols).length := by omega
    have q2 : List.take (k * 3) (colsPD cols) = colsPD cols := by rw [← hlen]; simp
    simp [frzV, frzD, q2, hlen]
  rw [e2] at g2
  exact ⟨_, g1.trans g2, fun id nf => by rw [upd_ne _ _ (fun e => nf (.inl e))]; exact c1 id (fun e => nf (.inl e)) (fun hh => nf (.inr ⟨hh.1, by omega⟩))⟩

/-- What is read of the columns. -/
theorem WkF.row {h : HP} {iC vC F k : Nat} {cols : List Col} (hW : WkF h iC vC F k cols) : ∃ row, h iC = (vC, some (.cells 36 row)) := by
  obtain ⟨_, _, vs, hC, _⟩ := hW; exact ⟨_, hC⟩
theorem WkF.colr {h : HP} {iC vC F k : Nat} {cols : List Col} (hW : WkF h iC vC F k cols) {z : Int} (hz : 0 ≤ z ∧ z < (k : Nat)) : ∃ u row, h iC = (vC, some (.cells 36 row)) ∧ row[z.toNat * 3]? = some (.own (F + 3 * z.toNat) u 0 (cols.getD z.toNat default).r.length) ∧ ∃ R, h (F + 3 * z.toNat) = (u, some (.cells 3 R)) := by
  obtain ⟨len, _, vs, hC, hcols⟩ := hW
  have hj : z.toNat < cols.length := by omega
  obtain ⟨a, _, _⟩ := hcols z.toNat cols[z.toNat] (by simp [hj])
  refine ⟨vs (3 * z.toNat), _, hC, ?_, _, a⟩
  rw [rowW_range, List.getElem?_map, List.getElem?_range (by omega)]
  simp only [Option.map_some]
  unfold partL
  rw [if_pos (by omega), show z.toNat * 3 / 3 = z.toNat by omega, show z.toNat * 3 = 3 * z.toNat by omega]

/-- Ways out, over any context. -/
theorem retnG {C : Ctx} {s : ASt} {Q : PV → HP → Prop} {rs : List ResultVar} {ds : List PD} (hn : rs.length ≠ 1) (hr : ResL C.E0.P s rs ds) (h1 : ∀ id, id < C.N → s.hp id = C.E0.hp id) (hq : Q (.d true (.tup ds)) C.E0.hp) {e : Exit} (he : e = .normal ∨ e = .ret) : retA C rs Q e s := by
  obtain ⟨q1, q2⟩ := hr.out
  have hlen := resPs_length C.E0.P s rs
  have : retP C rs Q s := by
    unfold retP
    split
    · rename_i c x he
      rw [he] at hlen; simp at hlen; omega
    · rename_i c xs hne he
      rw [he] at q1 q2
      refine ⟨q1, ?_⟩
      simp only at q2
      rw [q2]
      exact ⟨by rw [cutN_low h1]; exact hq, trivial, fun id hid => .inl (h1 id hid)⟩
  rcases he with rfl | rfl <;> exact this
end Go.Abs
namespace Go.Abs
theorem awp_hp0 {C : Ctx} {c : Code} {Q : Exit → ASt → Prop} {env : Nat → PV} {N : Nat} {h : HP} (hk : awp C c Q ⟨env, hpL N h []⟩) : awp C c Q ⟨env, h⟩ := hk
theorem awp_work {C : Ctx} {c : Code} {Q : Exit → ASt → Prop} {env : Nat → PV} {h : HP} {iW i2 i3 iC F k v1 v2 v3 v4 : Nat} {xs xp : PD} {l2 l3 : Nat} {R2 R3 : List PD} (hF : F + 3 * k ≤ C.T) (hd : iW ≠ i2 ∧ iW ≠ i3 ∧ iW ≠ iC ∧ i2 ≠ i3 ∧ i2 ≠ iC ∧ i3 ≠ iC) (hlt : iW < F ∧ i2 < F ∧ i3 < F ∧ iC < F)
    (h2 : (C.E0.hp i2).2 = none) (h3 : (C.E0.hp i3).2 = none) (sz3 : szOf C.E0.P 3 = 1) (q2 : l2 = R2.length) (q3 : l3 = R3.length)
    (e1 : h iW = (v1, some (.cells 72 [.d true xs, .d true xp, .own i2 v2 0 l2, .own i3 v3 0 l3, .own iC v4 0 k]))) (e2 : h i2 = (v2, some (.cells 3 (R2.map (PV.d true))))) (e3 : h i3 = (v3, some (.cells 3 (R3.map (PV.d true))))) (e4 : h iC = (v4, some (.cells 36 ((List.replicate (3 * k) PD.nil).map (PV.d true)))))
    (hk : ∀ h', h' iW = (v1, some (.cells 72 [.d true xs, .d true xp, .d true (.lst l2 R2), .d true (.lst l3 R3), .own iC v4 0 k])) → WkF h' iC v4 F k (List.replicate k default) →
      (∀ id, id ≠ iW → id ≠ i2 → id ≠ i3 → id ≠ iC → ¬ (F ≤ id ∧ id < F + 3 * k) → h' id = h id) → awp C c Q ⟨env, h'⟩) : awp C c Q ⟨env, h⟩ := by
  obtain ⟨h', g, a, b, c'⟩ := Gh.work (C := C) (env := env) hF hd hlt h2 h3 sz3 q2 q3 e1 e2 e3 e4
  exact awp_gh g (hk h' a b c')
theorem awp_workEnd {C : Ctx} {c : Code} {Q : Exit → ASt → Prop} {l : List (Nat × PV)} {h : HP} {iC vC F k t : Nat} {cols : List Col} (hW : WkF h iC vC F k cols) (ht : envL l t = .own iC vC 0 k) (h0 : ∀ id, FootW iC F k id → (C.E0.hp id).2 = none) (sz3 : szOf C.E0.P 3 = 1) (sz51 : szOf C.E0.P 51 = 2) (sz36 : szOf C.E0.P 36 = 3)
    (hk : ∀ h', (∀ id, ¬ FootW iC F k id → h' id = h id) → awp C c Q ⟨envL ((t, .d true (.lst k (colsPD cols))) :: l), h'⟩) : awp C c Q ⟨envL l, h⟩ := by
  obtain ⟨h', g, a⟩ := Gh.workEnd (C := C) hW ht h0 sz3 sz51 sz36
  exact awp_gh g (hk h' a)
theorem nils_eq {l : List PD} {K : Nat} (h : l.all isNilD = true) (hl : l.length = K) : l = List.replicate K .nil := by
  subst hl
  induction l with
  | nil => rfl
  | cons x l ih =>
    simp only [List.all_cons, Bool.and_eq_true] at h
    rw [List.length_cons, List.replicate_succ, ← ih h.2]
    cases x <;> simp [isNilD] at h
    rfl
end Go.Abs
namespace Go.Abs
section
variable {C : Ctx} {s : ASt} {iC vC F k : Nat} {cols : List Col}
theorem st_len_W {d : Nat} {t : TypeId} {x : Operand} (hW : WkF s.hp iC vC F k cols) (hs : isSl C.E0.P t = true) (hx : s.ev x = .own iC vC 0 k) : St C s (.call ⟨.builtin .len, #[x], #[t]⟩) (some d) (.d true (.int .i64 (cols.length : Int))) none := by
  obtain ⟨row, hr⟩ := hW.row
  rw [hW.len]; exact st_len_o hs hx hr
theorem st_ia_W {d : Nat} {t e : TypeId} {x i : Operand} {k2 : Bool} {K : IntKind} {z : Int} (hW : WkF s.hp iC vC F k cols) (he : elemT C.E0.P t = some e) (hs : szOf C.E0.P e = 3) (hx : s.ev x = .own iC vC 0 k) (hi : s.ev i = .d k2 (.int K z)) (hg : 0 ≤ z ∧ z < (cols.length : Nat)) : St C s (.indexAddr t x i) (some d) (.ptr iC vC (z.toNat * 3)) none := by
  obtain ⟨row, hr⟩ := hW.row
  exact st_ia_o he hs (by decide) hx hr hi (by rw [hW.len] at hg; exact hg)
theorem WkF.colr' {h : HP} (hW : WkF h iC vC F k cols) {z : Int} (hz : 0 ≤ z ∧ z < (cols.length : Nat)) : ∃ u row, h iC = (vC, some (.cells 36 row)) ∧ row[z.toNat * 3]? = some (.own (F + 3 * z.toNat) u 0 (cols.getD z.toNat default).r.length) ∧ ∃ R, h (F + 3 * z.toNat) = (u, some (.cells 3 R)) := hW.colr (by rw [hW.len] at hz; exact hz)
end
end Go.Abs
