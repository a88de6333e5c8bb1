/- The operations on memory, one by one. No condition. -/
import Derived.Test.YtfhpoffgnpgagaaAbsD
set_option linter.unusedSimpArgs false
set_option linter.unusedVariables false
namespace Go.Abs

section
variable {C : Ctx} {s : ASt} {a : Act} {w : World}

def envOf (C : Ctx) (hp : HP) (ι : Nat → Option Nat) (I : Nat → Prop) (w : World) : AEnv := ⟨C.E0.P, hp, ι, I, C.E0.A, w.heap⟩

/-- A value, nothing else: the run is known. -/
theorem Rel.val (r : Rel C s a w) {o : Oper} {K : Act → World → Prop} {Q : Exit → Act → World → Prop} (hd : ∀ d, o.dst = some d → d < C.n) {x : PV}
    (h : ∀ ι I, At C ι I s.hp w → (∀ t, V ⟨C.E0.P, s.hp, ι, I, C.E0.A, w.heap⟩ (s.env t) (a.tmps.getD t undef)) →
      ∃ v, V ⟨C.E0.P, s.hp, ι, I, C.E0.A, w.heap⟩ x v ∧ (execOp a.eval o).run C.E0.P w = .ok (.value v) w)
    (hk : ∀ a', Rel C (s.put o.dst x) a' w → K a' w) : o.wp C.E0.P a w K Q := by
  obtain ⟨h1, h2, ι, I, hat, henv⟩ := r
  obtain ⟨v, hv, hr⟩ := h ι I hat henv
  refine wp_val hr (hk _ ?_)
  have e : (s.put o.dst x).hp = s.hp := by cases o.dst <;> rfl
  refine ⟨(put_defers a o.dst v).trans h1, ⟨(put_size a o.dst v).trans h2.1, by rw [e]; exact h2.2⟩, ι, I, by rw [e]; exact hat, ?_⟩
  rw [e]
  exact env_put h2.1 hd henv hv

/-- One object has turned; then the value is put. -/
theorem Rel.obj {ι : Nat → Option Nat} {I I' : Nat → Prop} {w' : World} (h1 : a.defers = []) (h2 : a.tmps.size = C.n ∧ ∀ id, C.T ≤ id → (s.hp id).2 = none)
    (henv : ∀ t, V ⟨C.E0.P, s.hp, ι, I, C.E0.A, w.heap⟩ (s.env t) (a.tmps.getD t undef))
    {id ver : Nat} {o' : Option AObj} {ib : Option Nat} (hat' : At C (upd ι id ib) I' (upd s.hp id (ver, o')) w')
    (hle : Le ⟨C.E0.P, s.hp, ι, I, C.E0.A, w.heap⟩ ⟨C.E0.P, upd s.hp id (ver, o'), upd ι id ib, I', C.E0.A, w'.heap⟩)
    (hid : id < C.T) {dst : Option Tmp} (hd : ∀ d, dst = some d → d < C.n) {x : PV} {v : Value} (hx : V ⟨C.E0.P, upd s.hp id (ver, o'), upd ι id ib, I', C.E0.A, w'.heap⟩ x v) :
    Rel C (s.app dst ⟨x, some (id, ver, o')⟩) (a.put dst v) w' := by
  refine ⟨(put_defers a dst v).trans h1, ⟨(put_size a dst v).trans h2.1, fun jd hj => (by show (upd s.hp id (ver, o') jd).2 = none; rw [upd_ne _ _ (by omega)]; exact h2.2 jd hj)⟩, upd ι id ib, I', hat', ?_⟩
  have := env_put (s := s) h2.1 hd (fun t => (henv t).mono hle) hx
  exact this

/-- A new block for object id, whatever it was before. -/
theorem At.alloc {ι : Nat → Option Nat} {I : Nat → Prop} {hp : HP} (k : At C ι I hp w) (id ver : Nat) (hv : (hp id).1 < ver) (e : TypeId) (row : List PV) (c : Array Value)
    (hr : VL ⟨C.E0.P, hp, ι, I, C.E0.A, w.heap⟩ row (c.toList.take row.length)) (hc : row.length ≤ c.size) :
    At C (upd ι id (some w.heap.size)) I (upd hp id (ver, some (.cells e row))) (w.alloc (.cells c e)) ∧
    Le ⟨C.E0.P, hp, ι, I, C.E0.A, w.heap⟩ ⟨C.E0.P, upd hp id (ver, some (.cells e row)), upd ι id (some w.heap.size), I, C.E0.A, (w.alloc (.cells c e)).heap⟩ := by
  have hnew : (w.alloc (.cells c e)).heap[w.heap.size]? = some (.cells c e (0, 0)) := heap_alloc_new w _
  refine k.change id ver (some (.cells e row)) (some w.heap.size) I (by omega) (fun hh => by omega) rfl rfl rfl (by simp) (fun b hb _ => heap_alloc_old w _ b hb) (fun _ h => h) (fun _ h => .inl h)
    (fun b hb => by have := k.hok.bound b (.inl hb); simp; exact Nat.lt_succ_of_lt this) (fun jd o b hne ho hi => ?_) (fun _ _ h => by cases h) (fun x b hx hb => ?_)
  · obtain ⟨n1, _, hc'⟩ := k.hok.atSome jd o b ho hi
    refine ⟨n1, fun e => ?_⟩
    have hlt : b < w.heap.size := hc'.lt
    simp at e; omega
  · simp at hx hb
    subst hx; subst hb
    refine ⟨fun hI => ?_, fun hA => ?_, .inr (Nat.le_refl _), fun E' L hE _ _ => ⟨c, by rw [hE]; exact hnew, hc, fun i y hy => ?_⟩⟩
    · have := k.hok.bound _ (.inl hI); simp at this
    · have := k.hok.bound _ (.inr hA); simp at this
    · have hlt : i < row.length := (List.getElem?_eq_some_iff.1 hy).1
      have hc2 : (c.toList.take row.length)[i]? = some (c.getD i undef) := by
        rw [List.getElem?_take, if_pos hlt, Array.getD_eq_getD_getElem?]
        have : i < c.size := by omega
        simp [this]
      obtain ⟨g1, g2⟩ := hr.2 i y _ hy hc2
      exact ⟨g1.mono L, g2⟩

/-- Where a new object lies, its handles stand. -/
theorem ptr_new {P : Program} {hp : HP} {ι : Nat → Option Nat} {I A : Nat → Prop} {h : Array Obj} {id ver off : Nat} {o : AObj} {b : Nat} :
    V ⟨P, upd hp id (ver, some o), upd ι id (some b), I, A, h⟩ (.ptr id ver off) (.pointer (some ⟨b, off, none⟩)) := by
  refine .ptr id ver off _ ⟨by simp [upd], fun _ o' _ => ⟨b, by simp [upd], rfl⟩⟩

theorem own_new {P : Program} {hp : HP} {ι : Nat → Option Nat} {I A : Nat → Prop} {h : Array Obj} {id ver len cap : Nat} {e : TypeId} {row : List PV} {b : Nat} {c : Array Value}
    (hb : h[b]? = some (.cells c e (0, 0))) (hl : len ≤ cap) (hs : c.size = cap * szOf P e) (hm : cap ≤ maxLen) :
    V ⟨P, upd hp id (ver, some (.cells e row)), upd ι id (some b), I, A, h⟩ (.own id ver 0 len) (.slice (some ⟨b, 0, none⟩) len cap) := by
  refine .own id ver 0 len _ ⟨by simp [upd], fun _ e' r' ho' => ⟨by simp [upd], fun b' hb' => ?_⟩⟩
  simp [upd] at ho' hb'
  obtain ⟨rfl, rfl⟩ := ho'; subst hb'
  exact ⟨0, cap, c, rfl, hl, fun _ => rfl, hb, fun _ => ⟨hs, hm⟩⟩

/-- alloc. -/
def fAlloc (P : Program) (hp : HP) (e : TypeId) (id : Nat) : Out :=
  match zeroT P e with
  | some z => val' (.ptr id ((hp id).1 + 1) 0) id ((hp id).1 + 1) (some (.cells e z))
  | none => no
where val' (x : PV) (id ver : Nat) (o : Option AObj) : Out := (True, ⟨x, some (id, ver, o)⟩)

/-- box. -/
def fBox (hp : HP) (e : TypeId) (x : PV) (id : Nat) : Out :=
  match cellsOf x with
  | some cs => (fitsP hp cs, ⟨.ptr id ((hp id).1 + 1) 0, some (id, (hp id).1 + 1, some (.cells e cs))⟩)
  | none => no

theorem take_self {α : Type} (l : List α) (n : Nat) (h : n = l.length) : l.take n = l := by subst h; simp

theorem alloc_sound (r : Rel C s a w) {o : Oper} {K : Act → World → Prop} {Q : Exit → Act → World → Prop} (hd : ∀ d, o.dst = some d → d < C.n) {e : TypeId} (ho : o.op = .alloc e) (id : Nat) (hid : id < C.T)
    (hc : (fAlloc C.E0.P s.hp e id).1) (hk : ∀ a' w', Rel C (s.app o.dst (fAlloc C.E0.P s.hp e id).2) a' w' → K a' w') : o.wp C.E0.P a w K Q := by
  unfold fAlloc at hc hk
  cases hz : zeroT C.E0.P e with
  | none => simp [hz, no] at hc
  | some ds =>
    simp only [hz, fAlloc.val'] at hk
    obtain ⟨i, z, hi, hzz, hvl⟩ := zeroT_run hz
    obtain ⟨h1, h2, ι, I, hat, henv⟩ := r
    have hv := hvl ⟨C.E0.P, s.hp, ι, I, C.E0.A, w.heap⟩
    have hlen : ds.length = z.cells.size := by simpa using hv.1
    have hrun : (execOp a.eval o).run C.E0.P w = .ok (.value (.pointer (some ⟨w.heap.size, 0, none⟩))) (w.alloc (.cells z.cells e)) := by
      simp [execOp, ho, Instr.alloc, zeroValue, typeInfo, hi, hzz, newVar, newRow]
    obtain ⟨g1, g2⟩ := hat.alloc id ((s.hp id).1 + 1) (by omega) e ds z.cells (by rw [take_self _ _ (by simpa using hlen)]; exact hv) (by omega)
    unfold Oper.wp
    rw [hrun]
    exact hk _ _ (Rel.obj h1 h2 henv g1 g2 hid hd ptr_new)

theorem box_sound (r : Rel C s a w) {o : Oper} {K : Act → World → Prop} {Q : Exit → Act → World → Prop} (hd : ∀ d, o.dst = some d → d < C.n) {e : TypeId} {x : Operand} (ho : o.op = .box e x) (id : Nat) (hid : id < C.T)
    (hc : (fBox s.hp e (s.ev x) id).1) (hk : ∀ a' w', Rel C (s.app o.dst (fBox s.hp e (s.ev x) id).2) a' w' → K a' w') : o.wp C.E0.P a w K Q := by
  unfold fBox at hc hk
  cases hz : cellsOf (s.ev x) with
  | none => simp [hz, no] at hc
  | some ds =>
    simp only [hz] at hk hc
    obtain ⟨h1, h2, ι, I, hat, henv⟩ := r
    have hv := VL_cells (V_ev henv x) hz hc
    have hlen : ds.length = (a.eval x).cells.size := by simpa using hv.1
    have hrun : (execOp a.eval o).run C.E0.P w = .ok (.value (.pointer (some ⟨w.heap.size, 0, none⟩))) (w.alloc (.cells (a.eval x).cells e)) := by
      simp [execOp, ho, Instr.box, newVar, newRow]
    obtain ⟨g1, g2⟩ := hat.alloc id ((s.hp id).1 + 1) (by omega) e ds (a.eval x).cells (by rw [take_self _ _ (by simpa using hlen)]; exact hv) (by omega)
    unfold Oper.wp
    rw [hrun]
    exact hk _ _ (Rel.obj h1 h2 henv g1 g2 hid hd ptr_new)

/-- load. -/
def fLoad (P : Program) (hp : HP) (t : TypeId) (p : PV) : Out :=
  match tyT P t, p with
  | some (ag, n), .ptr id ver off =>
    match hp id with
    | (v, some (.cells _ row)) => valIf (ver = v ∧ off + n ≤ row.length ∧ (ag = true ∨ n = 1)) (if ag then .agg ((row.drop off).take n) else row.getD off .dead)
    | _ => no
  | some (ag, n), .d k (.lp cs) => valIf (n ≤ cs.length ∧ (ag = true ∨ n = 1)) (if ag then .d k (.agg (cs.take n)) else dk k (cs.getD 0 .nil))
  | _, _ => no

theorem fLoad_sound {ι : Nat → Option Nat} {I : Nat → Prop} {hp : HP} (hat : At C ι I hp w) {t : TypeId} {p : PV} {v : Value} (hv : V ⟨C.E0.P, hp, ι, I, C.E0.A, w.heap⟩ p v) (hc : (fLoad C.E0.P hp t p).1) :
    (fLoad C.E0.P hp t p).2.o = none ∧ ∃ u, V ⟨C.E0.P, hp, ι, I, C.E0.A, w.heap⟩ (fLoad C.E0.P hp t p).2.x u ∧ ∃ ad, v = .pointer (some ad) ∧ (loadVar t ad).run C.E0.P w = .ok u w := by
  unfold fLoad at hc ⊢
  cases ht : tyT C.E0.P t with
  | none => cases p <;> simp [ht, no] at hc
  | some an =>
    obtain ⟨ag, n⟩ := an
    simp only [ht] at hc ⊢
    split at hc <;> try (simp [no] at hc; done)
    · rename_i ag' n' id ver off e1
      obtain ⟨rfl, rfl⟩ := e1
      split at hc <;> try (simp [no] at hc; done)
      rename_i v' ety row hh
      obtain ⟨rfl, hlen, h1⟩ := hc
      refine ⟨rfl, ?_⟩
      cases hv with
      | ptr _ _ _ _ hp' =>
        obtain ⟨b, hb, rfl⟩ := hp'.2 (by simp [hh]) (.cells ety row) (by simp [hh])
        obtain ⟨c, hcc, hl, hvl⟩ := hat.hok.row (id := id) (e := ety) (row := row) (by simp [hh]) hb
        have hl' : row.length ≤ c.size := hl
        have hrun := run_loadVar_cells (P := C.E0.P) (w := w) ht hcc (o := off) (by omega) h1
        refine ⟨if ag = true then Value.agg ((c.toList.drop off).take n).toArray else c.getD off undef, ?_, _, rfl, hrun⟩
        cases ag with
        | true =>
          simp only [if_true]
          have h3 := (hvl.drop off).take n
          have e2 : ((c.toList.take row.length).drop off).take n = (c.toList.drop off).take n := by
            rw [List.drop_take, List.take_take]
            congr 1
            omega
          rw [e2] at h3
          exact V_agg_of_VL h3
        | false =>
          simp only [Bool.false_eq_true, if_false]
          have hn : n = 1 := by simpa using h1
          subst hn
          have hlt : off < row.length := by omega
          have h4 : row[off]? = some (row.getD off .dead) := by simp [hlt]
          have h5 : (c.toList.take row.length)[off]? = some (c.getD off undef) := by
            rw [List.getElem?_take, if_pos hlt, Array.getD_eq_getD_getElem?]
            have : off < c.size := by omega
            simp [this]
          exact (hvl.2 off _ _ h4 h5).1
    · rename_i ag' n' k cs e1
      obtain ⟨rfl, rfl⟩ := e1
      obtain ⟨hlen, h1⟩ := hc
      refine ⟨rfl, ?_⟩
      cases hv with
      | d _ _ _ hvd =>
        cases hvd with
        | lp _ b off c e fr hI hcc hl hvv hone =>
          have hrun := run_loadVar_cells (P := C.E0.P) (w := w) ht hcc (o := off) (by omega) h1
          have hvl : VL ⟨C.E0.P, hp, ι, I, C.E0.A, w.heap⟩ (cs.map (.d k)) ((c.toList.drop off).take cs.length) := VL_data hl hvv hone
          refine ⟨if ag = true then Value.agg ((c.toList.drop off).take n).toArray else c.getD off undef, ?_, _, rfl, hrun⟩
          cases ag with
          | true =>
            simp only [if_true]
            have h3 := hvl.take n
            rw [← List.map_take, List.take_take, Nat.min_eq_left hlen] at h3
            exact V_dagg_of_VL h3
          | false =>
            simp only [Bool.false_eq_true, if_false]
            have hn : n = 1 := by simpa using h1
            subst hn
            have hlt : 0 < cs.length := by omega
            have h4 : cs[0]? = some (cs.getD 0 .nil) := by simp [hlt]
            exact V_dk (.d k _ _ (by simpa using hvv 0 _ h4))

theorem load_sound (r : Rel C s a w) {o : Oper} {K : Act → World → Prop} {Q : Exit → Act → World → Prop} (hd : ∀ d, o.dst = some d → d < C.n) {t : TypeId} {x : Operand} (ho : o.op = .load t x)
    (hc : (fLoad C.E0.P s.hp t (s.ev x)).1) (hk : ∀ a' w', Rel C (s.app o.dst (fLoad C.E0.P s.hp t (s.ev x)).2) a' w' → K a' w') : o.wp C.E0.P a w K Q := by
  obtain ⟨h1, h2, ι0, I0, hat0, henv0⟩ := r
  have e0 := (fLoad_sound hat0 (V_ev henv0 x) hc).1
  have e1 : (fLoad C.E0.P s.hp t (s.ev x)).2 = ⟨(fLoad C.E0.P s.hp t (s.ev x)).2.x, none⟩ := by rw [← e0]
  rw [e1] at hk
  refine Rel.val ⟨h1, h2, ι0, I0, hat0, henv0⟩ (x := (fLoad C.E0.P s.hp t (s.ev x)).2.x) hd (fun ι I hat henv => ?_) (fun a' ra => hk a' w ra)
  obtain ⟨_, u, hu, ad, hv, hr⟩ := fLoad_sound hat (V_ev henv x) hc
  exact ⟨u, hu, by simp [execOp, ho, hv, Instr.loadAt, Instr.sureAddr, hr]⟩

end

end Go.Abs
