/- Rows of own slices: made out of nils, kept for good. No condition. -/
import Derived.Test.YtfhpoffgnpgagaaAbsWk
set_option linter.unusedSimpArgs false
set_option linter.unusedVariables false
namespace Go.Abs

theorem set_range_own {K t : Nat} (ht : t < K) (f g : Nat → PV) (z : PV) (hfg : ∀ i, i < t → g i = f i) :
    ((List.range t).map f ++ List.replicate (K - t) z).set t (g t) = (List.range (t + 1)).map g ++ List.replicate (K - (t + 1)) z := by
  have h1 : K - t = (K - (t + 1)) + 1 := by omega
  rw [h1, List.replicate_succ, List.set_append_right _ _ (by simp)]
  simp only [List.length_map, List.length_range, Nat.sub_self, List.set_cons_zero]
  rw [List.range_succ, List.map_append, List.append_assoc]
  congr 1
  exact List.map_congr_left fun i hi => (hfg i (List.mem_range.1 hi)).symm

theorem Gh.virtRow {C : Ctx} {env : Nat → PV} (jd F v : Nat) (et : TypeId) (ety : Nat → TypeId) (K : Nat) (hF : F + K ≤ C.T) (hj : ∀ i, i < K → jd ≠ F + i) {h : HP} (hh : h jd = (v, some (.cells et (List.replicate K (.d true .nil))))) :
    ∀ t, t ≤ K → ∃ (h' : HP) (vs : Nat → Nat), Gh C ⟨env, h⟩ ⟨env, h'⟩ ∧ h' jd = (v, some (.cells et ((List.range t).map (fun i => PV.own (F + i) (vs i) 0 0) ++ List.replicate (K - t) (.d true .nil)))) ∧
      (∀ i, i < t → h' (F + i) = (vs i, some (.cells (ety i) []))) ∧ ∀ id, id ≠ jd → ¬ (F ≤ id ∧ id < F + t) → h' id = h id
  | 0, _ => ⟨h, fun _ => 0, Gh.refl _, by simpa using hh, (fun i hi => by omega), fun _ _ _ => rfl⟩
  | t + 1, ht => by
    obtain ⟨h', vs, g, a, b, c⟩ := Gh.virtRow jd F v et ety K hF hj hh t (by omega)
    let vs' : Nat → Nat := fun i => if i = t then (h' (F + t)).1 + 1 else vs i
    have hvt : vs' t = (h' (F + t)).1 + 1 := by simp [vs']
    have hvo : ∀ i, i < t → vs' i = vs i := fun i hi => by simp [vs', Nat.ne_of_lt hi]
    have g2 := Gh.virtual_cell (C := C) (s := ⟨env, h'⟩) (F + t) (by omega) (ety t) (jd := jd) (i := t) (hj t (by omega)) a (k := true) (by
      rw [List.getElem?_append_right (by simp)]; simp only [List.length_map, List.length_range, Nat.sub_self]; rw [List.getElem?_replicate, if_pos (by omega)])
    refine ⟨_, vs', g.trans g2, ?_, fun i hi => ?_, fun id h1 h2 => ?_⟩
    · rw [upd_eq]
      congr 3
      have := set_range_own (K := K) (t := t) (by omega) (fun i => PV.own (F + i) (vs i) 0 0) (fun i => PV.own (F + i) (vs' i) 0 0) (.d true .nil) (fun i hi => by simp only [hvo i hi])
      simp only [hvt] at this
      exact this
    · have hne : F + i ≠ jd := fun e => hj i (by omega) e.symm
      rw [upd_ne _ _ hne]
      by_cases e : i = t
      · subst e; rw [upd_eq, hvt]
      · rw [upd_ne _ _ (by omega), hvo i (by omega)]; exact b i (by omega)
    · rw [upd_ne _ _ h1, upd_ne _ _ (by omega)]; exact c id h1 (by omega)

theorem set_drop_data {K t : Nat} (ht : t < K) (f : Nat → PV) (g : Nat → PV) :
    ((List.range t).map g ++ ((List.range K).map f).drop t).set t (g t) = (List.range (t + 1)).map g ++ ((List.range K).map f).drop (t + 1) := by
  rw [List.set_append_right _ _ (by simp)]
  simp only [List.length_map, List.length_range, Nat.sub_self]
  rw [List.drop_eq_getElem_cons (by simpa using ht), List.set_cons_zero, List.range_succ, List.map_append, List.append_assoc]
  rfl

theorem Gh.frzRow {C : Ctx} {env : Nat → PV} (jd F v : Nat) (et : TypeId) (ety : Nat → TypeId) (vs len : Nat → Nat) (ds : Nat → List PD) (K : Nat) (hj : ∀ i, i < K → jd ≠ F + i) (h0 : ∀ i, i < K → (C.E0.hp (F + i)).2 = none) (hl : ∀ i, i < K → len i * szOf C.E0.P (ety i) = (ds i).length)
    {h : HP} (hh : h jd = (v, some (.cells et ((List.range K).map fun i => PV.own (F + i) (vs i) 0 (len i))))) (ho : ∀ i, i < K → h (F + i) = (vs i, some (.cells (ety i) ((ds i).map (PV.d true))))) :
    ∀ t, t ≤ K → ∃ (h' : HP), Gh C ⟨env, h⟩ ⟨env, h'⟩ ∧ h' jd = (v, some (.cells et ((List.range t).map (fun i => PV.d true (.lst (len i) (ds i))) ++ ((List.range K).map fun i => PV.own (F + i) (vs i) 0 (len i)).drop t))) ∧
      ∀ id, id ≠ jd → ¬ (F ≤ id ∧ id < F + t) → h' id = h id
  | 0, _ => ⟨h, Gh.refl _, by simpa using hh, fun _ _ _ => rfl⟩
  | t + 1, ht => by
    obtain ⟨h', g, a, c⟩ := Gh.frzRow jd F v et ety vs len ds K hj h0 hl hh ho t (by omega)
    have hne : jd ≠ F + t := hj t (by omega)
    have hot : h' (F + t) = (vs t, some (.cells (ety t) ((ds t).map (PV.d true)))) := (c (F + t) (Ne.symm hne) (by omega)).trans (ho t (by omega))
    have g2 := Gh.freeze_cell (C := C) (s := ⟨env, h'⟩) (F + t) jd t (v := vs t) (len := len t) (ds := ds t) hot (h0 t (by omega)) (toDs_true _) a hne (by
      rw [List.getElem?_append_right (by simp)]; simp only [List.length_map, List.length_range, Nat.sub_self]; rw [List.getElem?_drop, Nat.add_zero, List.getElem?_map, List.getElem?_range (by omega)]; rfl) (hl t (by omega))
    refine ⟨_, g.trans g2, ?_, fun id h1 h2 => ?_⟩
    · rw [upd_eq]
      congr 3
      exact set_drop_data (K := K) (by omega) (fun i => PV.own (F + i) (vs i) 0 (len i)) (fun i => PV.d true (.lst (len i) (ds i)))
    · rw [upd_ne _ _ h1, upd_ne _ _ (by omega)]; exact c id h1 (by omega)

def colPD (c : Col) : List PD := [.lst c.r.length (isD c.r), .lst c.d.length (isD c.d), .lst c.v.length (valsD c.v)]
def colsPD (cs : List Col) : List PD := cs.flatMap colPD

/-- The parts of columns, numbered. -/
def partD (cols : List Col) (i : Nat) : List PD := if i % 3 = 0 then isD (cols.getD (i / 3) default).r else if i % 3 = 1 then isD (cols.getD (i / 3) default).d else valsD (cols.getD (i / 3) default).v
def partL (cols : List Col) (i : Nat) : Nat := if i % 3 = 0 then (cols.getD (i / 3) default).r.length else if i % 3 = 1 then (cols.getD (i / 3) default).d.length else (cols.getD (i / 3) default).v.length
def partT (i : Nat) : TypeId := if i % 3 = 2 then 51 else 3

theorem rowW_range (F : Nat) (vs : Nat → Nat) (cols : List Col) : rowW F vs 0 cols = (List.range (3 * cols.length)).map fun i => PV.own (F + i) (vs i) 0 (partL cols i) := by
  have key : ∀ (cs : List Col) (j : Nat) (L : List Col), L.drop j = cs → rowW F vs j cs = (List.range' (3 * j) (3 * cs.length)).map fun i => PV.own (F + i) (vs i) 0 (partL L i) := by
    intro cs
    induction cs with
    | nil => intros; rfl
    | cons c cs ih =>
      intro j L hL
      have hj : L.getD j default = c := by
        have : (L.drop j)[0]? = some c := by rw [hL]; rfl
        rw [List.getElem?_drop] at this
        simp only [Nat.add_zero] at this
        simp [this]
      have h2 : L.drop (j + 1) = cs := by rw [← List.drop_drop, hL]; rfl
      have e : 3 * (c :: cs).length = 3 * cs.length + 1 + 1 + 1 := by simp; omega
      rw [e]
      simp only [rowW, List.range'_succ, List.map_cons]
      rw [ih (j + 1) L h2]
      have p0 : partL L (3 * j) = c.r.length := by unfold partL; rw [if_pos (by omega), show 3 * j / 3 = j by omega, hj]
      have p1 : partL L (3 * j + 1) = c.d.length := by unfold partL; rw [if_neg (by omega), if_pos (by omega), show (3 * j + 1) / 3 = j by omega, hj]
      have p2 : partL L (3 * j + 1 + 1) = c.v.length := by unfold partL; rw [if_neg (by omega), if_neg (by omega), show (3 * j + 1 + 1) / 3 = j by omega, hj]
      rw [p0, p1, p2]
      rfl
  rw [key cols 0 cols rfl, List.range_eq_range']

theorem colsPD_range (cols : List Col) : (List.range (3 * cols.length)).map (fun i => PD.lst (partL cols i) (partD cols i)) = colsPD cols := by
  have key : ∀ (cs : List Col) (j : Nat) (L : List Col), L.drop j = cs → (List.range' (3 * j) (3 * cs.length)).map (fun i => PD.lst (partL L i) (partD L i)) = colsPD cs := by
    intro cs
    induction cs with
    | nil => intros; rfl
    | cons c cs ih =>
      intro j L hL
      have hj : L.getD j default = c := by
        have : (L.drop j)[0]? = some c := by rw [hL]; rfl
        rw [List.getElem?_drop] at this
        simp only [Nat.add_zero] at this
        simp [this]
      have h2 : L.drop (j + 1) = cs := by rw [← List.drop_drop, hL]; rfl
      have e : 3 * (c :: cs).length = 3 * cs.length + 1 + 1 + 1 := by simp; omega
      rw [e]
      simp only [List.range'_succ, List.map_cons]
      rw [show 3 * j + 1 + 1 + 1 = 3 * (j + 1) by omega, ih (j + 1) L h2]
      have p0 : PD.lst (partL L (3 * j)) (partD L (3 * j)) = .lst c.r.length (isD c.r) := by unfold partL partD; rw [if_pos (by omega), if_pos (by omega), show 3 * j / 3 = j by omega, hj]
      have p1 : PD.lst (partL L (3 * j + 1)) (partD L (3 * j + 1)) = .lst c.d.length (isD c.d) := by unfold partL partD; rw [if_neg (by omega), if_pos (by omega), if_neg (by omega), if_pos (by omega), show (3 * j + 1) / 3 = j by omega, hj]
      have p2 : PD.lst (partL L (3 * j + 1 + 1)) (partD L (3 * j + 1 + 1)) = .lst c.v.length (valsD c.v) := by unfold partL partD; rw [if_neg (by omega), if_neg (by omega), if_neg (by omega), if_neg (by omega), show (3 * j + 1 + 1) / 3 = j by omega, hj]
      rw [p0, p1, p2]
      rfl
  have := key cols 0 cols rfl
  rw [← this, List.range_eq_range']
end Go.Abs
