/- Rows of values; reading and writing memory in the calculus is sound. No condition. -/
import Derived.Test.YtfhpoffgnpgagaaAbsC
import Derived.Laws.Tables
import Derived.Great.BuildSlice
set_option linter.unusedSimpArgs false
set_option linter.unusedVariables false
namespace Go.Abs

/-- Abstract cells and the machine's, one by one. -/
def VL (E : AEnv) (ds : List PV) (vs : List Value) : Prop :=
  ds.length = vs.length ∧ ∀ (i : Nat) d v, ds[i]? = some d → vs[i]? = some v → V E d v ∧ v.oneCell' = true

theorem VL.nil (E : AEnv) : VL E [] [] := ⟨rfl, by simp⟩
theorem VL.cons {E : AEnv} {d : PV} {v : Value} {ds : List PV} {vs : List Value} (h1 : V E d v) (h2 : v.oneCell' = true) (h : VL E ds vs) : VL E (d :: ds) (v :: vs) := by
  refine ⟨by simp [h.1], fun i x y hx hy => ?_⟩
  cases i with
  | zero => simp at hx hy; subst hx; subst hy; exact ⟨h1, h2⟩
  | succ i => exact h.2 i x y (by simpa using hx) (by simpa using hy)
theorem VL.mono {E E' : AEnv} (L : Le E E') {ds : List PV} {vs : List Value} (h : VL E ds vs) : VL E' ds vs :=
  ⟨h.1, fun i d v hd hv => ⟨(h.2 i d v hd hv).1.mono L, (h.2 i d v hd hv).2⟩⟩
theorem VL.append {E : AEnv} {a b : List PV} {x y : List Value} (h : VL E a x) (k : VL E b y) : VL E (a ++ b) (x ++ y) := by
  refine ⟨by simp [h.1, k.1], fun i d v hd hv => ?_⟩
  rw [List.getElem?_append] at hd hv
  rw [← h.1] at hv
  split at hd
  · rename_i hi; rw [if_pos hi] at hv; exact h.2 i d v hd hv
  · rename_i hi; rw [if_neg hi] at hv; exact k.2 _ d v hd hv
theorem VL.take {E : AEnv} {a : List PV} {x : List Value} (h : VL E a x) (n : Nat) : VL E (a.take n) (x.take n) := by
  refine ⟨by simp [h.1], fun i d v hd hv => ?_⟩
  rw [List.getElem?_take] at hd hv
  split at hd
  · rename_i hi; rw [if_pos hi] at hv; exact h.2 i d v hd hv
  · cases hd
theorem VL.drop {E : AEnv} {a : List PV} {x : List Value} (h : VL E a x) (n : Nat) : VL E (a.drop n) (x.drop n) := by
  refine ⟨by simp [h.1], fun i d v hd hv => ?_⟩
  rw [List.getElem?_drop] at hd hv
  exact h.2 _ d v hd hv
theorem VL.one {E : AEnv} {a : List PV} {x : List Value} (h : VL E a x) : ∀ v ∈ x, v.oneCell' = true := by
  intro v hv
  obtain ⟨i, hi, rfl⟩ := List.mem_iff_getElem.1 hv
  have h1 : i < a.length := by rw [h.1]; exact hi
  exact (h.2 i a[i] x[i] (by simp [h1]) (by simp [hi])).2

/-- The cells of an object's row. -/
theorem HOK.row {E : AEnv} (k : HOK E) {id : Nat} {e : TypeId} {row : List PV} {b : Nat} (ho : (E.hp id).2 = some (.cells e row)) (hi : E.ι id = some b) :
    ∃ c, E.h[b]? = some (.cells c e (0, 0)) ∧ row.length ≤ c.size ∧ VL E row (c.toList.take row.length) := by
  obtain ⟨_, _, c, hc, hl, hr⟩ := k.atSome id _ b ho hi
  refine ⟨c, hc, hl, by simp; omega, fun i d v hd hv => ?_⟩
  have hlt : i < row.length := (List.getElem?_eq_some_iff.1 hd).1
  rw [List.getElem?_take, if_pos hlt] at hv
  have : c.getD i undef = v := by
    rw [Array.getD_eq_getD_getElem?]
    have : c[i]? = some v := by simpa using hv
    rw [this]; rfl
  rw [← this]
  exact hr i d hd

/-- Data cells, seen as abstract cells. -/
theorem VL_data {E : AEnv} {k : Bool} {ds : List PD} {c : Array Value} {o : Nat} (hl : o + ds.length ≤ c.size) (h1 : ∀ i d, ds[i]? = some d → VD (E.IA k) E.h d (c.getD (o + i) undef))
    (h2 : ∀ i d, ds[i]? = some d → (c.getD (o + i) undef).oneCell' = true) : VL E (ds.map (.d k)) ((c.toList.drop o).take ds.length) := by
  refine ⟨by simp; omega, fun i d v hd hv => ?_⟩
  rw [List.getElem?_map] at hd
  cases hx : ds[i]? with
  | none => simp [hx] at hd
  | some x =>
    simp [hx] at hd
    subst hd
    have hlt : i < ds.length := (List.getElem?_eq_some_iff.1 hx).1
    rw [List.getElem?_take, if_pos hlt, List.getElem?_drop] at hv
    have : c.getD (o + i) undef = v := by
      rw [Array.getD_eq_getD_getElem?]
      have : c[o + i]? = some v := by simpa using hv
      rw [this]; rfl
    rw [← this]
    exact ⟨.d k x _ (h1 i x hx), h2 i x hx⟩

theorem V_agg_of_VL {E : AEnv} {ds : List PV} {vs : List Value} (h : VL E ds vs) : V E (.agg ds) (.agg vs.toArray) := by
  refine .agg ds _ (by simp [h.1]) fun i d hd => ?_
  have hlt : i < vs.length := by rw [← h.1]; exact (List.getElem?_eq_some_iff.1 hd).1
  have : vs.toArray.getD i undef = vs[i] := by simp [Array.getD_eq_getD_getElem?, hlt]
  rw [this]
  exact (h.2 i d vs[i] hd (by simp [hlt])).1

theorem VL_dk {E : AEnv} {k : Bool} {ds : List PD} {vs : List Value} (h : VL E (ds.map (.d k)) vs) : VL E (ds.map (dk k)) vs := by
  refine ⟨by simpa using h.1, fun i d v hd hv => ?_⟩
  rw [List.getElem?_map] at hd
  cases hx : ds[i]? with
  | none => simp [hx] at hd
  | some x =>
    simp [hx] at hd; subst hd
    obtain ⟨h1, h2⟩ := h.2 i (.d k x) v (by simp [hx]) hv
    exact ⟨V_dk h1, h2⟩

theorem V_dagg_of_VL {E : AEnv} {k : Bool} {ds : List PD} {vs : List Value} (h : VL E (ds.map (.d k)) vs) : V E (.d k (.agg ds)) (.agg vs.toArray) := by
  have hl : ds.length = vs.length := by simpa using h.1
  refine .d k _ _ (.agg ds _ (by simp [hl]) fun i d hd => ?_)
  have hlt : i < vs.length := by rw [← hl]; exact (List.getElem?_eq_some_iff.1 hd).1
  have : vs.toArray.getD i undef = vs[i] := by simp [Array.getD_eq_getD_getElem?, hlt]
  rw [this]
  have := (h.2 i (.d k d) vs[i] (by simp [hd]) (by simp [hlt])).1
  cases this with | d _ _ _ h => exact h

/-- What fills one variable: the cells of a value. -/
def cellsOf : PV → Option (List PV)
  | .agg cs => some cs
  | .d k (.agg cs) => some (cs.map (dk k))
  | .d _ (.tup _) => none
  | .dead => none
  | x => some [x]

def oneP : PV → Bool
  | .agg _ => false
  | .d _ (.agg _) => false
  | .d _ (.tup _) => false
  | .dead => false
  | _ => true

theorem V_one {E : AEnv} {x : PV} {v : Value} (h : V E x v) (hx : oneP x = true) (hown : ∀ id ver off len, x ≠ .own id ver off len) (hptr : ∀ id ver off, x ≠ .ptr id ver off) : v.oneCell' = true ∧ v.cells = #[v] := by
  cases h with
  | d k x v h => cases h <;> first | (simp [oneP] at hx; done) | exact ⟨rfl, rfl⟩
  | own id ver off len v h => exact absurd rfl (hown id ver off len)
  | ptr id ver off v h => exact absurd rfl (hptr id ver off)
  | fn => exact ⟨rfl, rfl⟩
  | agg => simp [oneP] at hx
  | dead => simp [oneP] at hx

/-- A handle is of use: of the newest version, on an object that is there. -/
def liveRow (hp : HP) (id ver : Nat) : Prop := match hp id with | (v, some (.cells _ _)) => v = ver | _ => False
def liveObj (hp : HP) (id ver : Nat) : Prop := match hp id with | (v, some _) => v = ver | _ => False

theorem liveRow.out {hp : HP} {id ver : Nat} (h : liveRow hp id ver) : (hp id).1 = ver ∧ ∃ e r, (hp id).2 = some (.cells e r) := by
  unfold liveRow at h
  split at h
  · rename_i v e r hh; rw [hh]; exact ⟨h, e, r, rfl⟩
  · exact h.elim
theorem liveObj.out {hp : HP} {id ver : Nat} (h : liveObj hp id ver) : (hp id).1 = ver ∧ ∃ o, (hp id).2 = some o := by
  unfold liveObj at h
  split at h
  · rename_i v o hh; rw [hh]; exact ⟨h, o, rfl⟩
  · exact h.elim

def fitP (hp : HP) : PV → Prop
  | .own id ver _ _ => liveRow hp id ver
  | .ptr id ver _ => liveObj hp id ver
  | x => oneP x = true

theorem V_fit {E : AEnv} {x : PV} {v : Value} (h : V E x v) (hx : fitP E.hp x) : v.oneCell' = true ∧ v.cells = #[v] := by
  cases h with
  | d k x v h => exact V_one (.d k x v h) hx (by simp) (by simp)
  | own id ver off len v h =>
    obtain ⟨h1, e, r, h2⟩ := liveRow.out hx
    obtain ⟨k1, k2⟩ := h.2 h1.symm e r h2
    cases hi : E.ι id with
    | none => obtain ⟨rfl, _⟩ := k1 hi; exact ⟨rfl, rfl⟩
    | some b => obtain ⟨_, _, _, rfl, _⟩ := k2 b hi; exact ⟨rfl, rfl⟩
  | ptr id ver off v h =>
    obtain ⟨h1, o, h2⟩ := liveObj.out hx
    obtain ⟨b, _, rfl⟩ := h.2 h1.symm o h2
    exact ⟨rfl, rfl⟩
  | fn => exact ⟨rfl, rfl⟩
  | agg => exact absurd hx (by simp [fitP, oneP])
  | dead => exact absurd hx (by simp [fitP, oneP])

def fitsP (hp : HP) : List PV → Prop
  | [] => True
  | x :: l => fitP hp x ∧ fitsP hp l

theorem VL_cells {E : AEnv} {x : PV} {v : Value} {cs : List PV} (h : V E x v) (hc : cellsOf x = some cs) (hf : fitsP E.hp cs) : VL E cs v.cells.toList := by
  have key : ∀ (ds : List PV) (l : List Value), ds.length = l.length → (∀ (i : Nat) d u, ds[i]? = some d → l[i]? = some u → V E d u) → fitsP E.hp ds → VL E ds l := by
    intro ds
    induction ds with
    | nil => intro l hl _ _; exact ⟨hl, by simp⟩
    | cons d ds ih =>
      intro l hl hv hf
      cases l with
      | nil => simp at hl
      | cons u l =>
        refine .cons (hv 0 d u rfl rfl) (V_fit (hv 0 d u rfl rfl) hf.1).1 (ih l (by simpa using hl) (fun i a b ha hb => hv (i + 1) a b (by simpa using ha) (by simpa using hb)) hf.2)
  have arr : ∀ (ds : List PV) (c : Array Value), ds.length = c.size → (∀ i d, ds[i]? = some d → V E d (c.getD i undef)) → fitsP E.hp ds → VL E ds c.toList := by
    intro ds c hl hv hf
    refine key ds c.toList (by simpa using hl) (fun i d u hd hu => ?_) hf
    have := hv i d hd
    rw [Array.getD_eq_getD_getElem?] at this
    have hu' : c[i]? = some u := by simpa using hu
    rw [hu'] at this
    exact this
  cases h with
  | d k y v h =>
    cases h with
    | agg ds c h1 h2 =>
      simp [cellsOf] at hc
      subst hc
      refine arr _ c (by simpa using h1) (fun i d hd => ?_) hf
      rw [List.getElem?_map] at hd
      cases hx : ds[i]? with
      | none => simp [hx] at hd
      | some z => simp [hx] at hd; subst hd; exact V_dk (.d k z _ (h2 i z hx))
    | tup => simp [cellsOf] at hc
    | _ => simp [cellsOf] at hc; subst hc; exact .cons (.d k _ _ (by constructor <;> assumption)) rfl (.nil E)
  | agg ds c h1 h2 => simp [cellsOf] at hc; subst hc; exact arr ds c h1 h2 hf
  | own id ver off len v h =>
    simp [cellsOf] at hc; subst hc
    have := V_fit (.own id ver off len v h) hf.1
    rw [this.2]; exact .cons (.own id ver off len v h) this.1 (.nil E)
  | ptr id ver off v h =>
    simp [cellsOf] at hc; subst hc
    have := V_fit (.ptr id ver off v h) hf.1
    rw [this.2]; exact .cons (.ptr id ver off v h) this.1 (.nil E)
  | fn f a b a' b' h1 h2 h3 h4 => simp [cellsOf] at hc; subst hc; exact .cons (.fn f a b a' b' h1 h2 h3 h4) rfl (.nil E)
  | dead => simp [cellsOf] at hc

theorem VL_of_pdOf {E : AEnv} : ∀ (l : List Value) (ds : List PV), l.mapM (fun v => (pdOf v).map (PV.d true)) = some ds → VL E ds l
  | [], ds, h => by simp at h; subst h; exact .nil E
  | v :: l, ds, h => by
    simp only [List.mapM_cons, Option.bind_eq_bind, Option.pure_def] at h
    cases hv : pdOf v with
    | none => simp [hv] at h
    | some x =>
      cases hl : l.mapM (fun v => (pdOf v).map (PV.d true)) with
      | none => simp [hv, hl] at h
      | some r =>
        simp [hv, hl] at h
        subst h
        refine .cons (.d true x v (VD_pdOf hv)) ?_ (VL_of_pdOf l r hl)
        cases v <;> simp [pdOf] at hv <;> rfl

theorem zeroT_run {P : Program} {t : TypeId} {ds : List PV} (h : zeroT P t = some ds) : ∃ i z, P.info? t = some i ∧ i.zero = some z ∧ ∀ E, VL E ds z.cells.toList := by
  unfold zeroT at h
  cases hi : P.info? t with
  | none => simp [hi] at h
  | some i =>
    cases hz : i.zero with
    | none => simp [hi, hz] at h
    | some z => simp only [hi, hz] at h; exact ⟨i, z, rfl, hz, fun E => VL_of_pdOf _ _ h⟩

theorem tyT_run {P : Program} {t : TypeId} {ag : Bool} {n : Nat} (h : tyT P t = some (ag, n)) (w : World) :
    (isAgg t).run P w = .ok ag w ∧ (sizeOf t).run P w = .ok n w ∧ ∃ i, P.info? t = some i ∧ i.size = n := by
  unfold tyT at h
  cases hi : P.info? t with
  | none => simp [hi] at h
  | some i =>
    cases hu : P.underlying t with
    | none => simp [hi, hu] at h
    | some d =>
      have hs : (sizeOf t).run P w = .ok i.size w := by simp [sizeOf, typeInfo, hi]
      cases d <;> simp [hi, hu] at h <;> obtain ⟨rfl, rfl⟩ := h <;> exact ⟨by simp [isAgg, run_underlying hu], hs, i, rfl, rfl⟩

theorem cells_at {w : World} {b o : Nat} {c : Array Value} {e : TypeId} {fr : Nat × Nat} (h : w.heap[b]? = some (.cells c e fr)) (n : Nat) :
    ∀ j v, ((c.toList.drop o).take n)[j]? = some v → w.cell? ((⟨b, o, none⟩ : Addr).add j) = some v := by
  intro j v hj
  rw [Addr.add_lit, cell_of_row w b (o + j) c e fr h]
  rw [List.getElem?_take] at hj
  split at hj
  · rw [List.getElem?_drop] at hj; simpa using hj
  · cases hj

/-- A variable of type t, read at a place behind which its cells lie. -/
theorem run_loadVar_cells {P : Program} {w : World} {t : TypeId} {ag : Bool} {n b o : Nat} {c : Array Value} {e : TypeId} {fr : Nat × Nat} (ht : tyT P t = some (ag, n))
    (h : w.heap[b]? = some (.cells c e fr)) (hl : o + n ≤ c.size) (h1 : ag = true ∨ n = 1) :
    (loadVar t ⟨b, o, none⟩).run P w = .ok (if ag then .agg ((c.toList.drop o).take n).toArray else c.getD o undef) w := by
  obtain ⟨ha, hs, _⟩ := tyT_run ht w
  have hc := cells_at (w := w) (o := o) h n
  cases ag with
  | true =>
    have hlen : ((c.toList.drop o).take n).length = n := by simp; omega
    have := run_loadCells_list (P := P) w ⟨b, o, none⟩ ((c.toList.drop o).take n) hc
    rw [hlen] at this
    simp [loadVar, ha, hs, this]
  | false =>
    have hn : n = 1 := by simpa using h1
    subst hn
    have hx : w.cell? ⟨b, o, none⟩ = some (c.getD o undef) := by
      rw [cell_of_row w b o c e fr h, Array.getD_eq_getD_getElem?]
      have : o < c.size := by omega
      simp [this]
    simp [loadVar, ha, hx]

def setAt (row : List PV) (off : Nat) (cs : List PV) : List PV := row.take off ++ cs ++ row.drop (off + cs.length)

end Go.Abs
