/- The operations on memory, further. No condition. -/
import Derived.Test.YtfhpoffgnpgagaaAbsE
set_option linter.unusedSimpArgs false
set_option linter.unusedVariables false
namespace Go.Abs

theorem take_setAt {α : Type} (A vs : List α) (off n L : Nat) (hv : vs.length = n) (h1 : off + n ≤ L) :
    (A.take off ++ vs ++ A.drop (off + n)).take L = (A.take L).take off ++ vs ++ (A.take L).drop (off + n) ∨ A.length < off := by
  by_cases h2 : off ≤ A.length
  · left
    have e1 : (A.take off ++ vs).length = off + n := by simp [hv]; omega
    rw [List.take_append, e1, List.take_of_length_le (by rw [e1]; exact h1), List.take_take, Nat.min_eq_left (by omega), List.drop_take]
  · right; omega

theorem length_setAt (row : List PV) (off : Nat) (cs : List PV) (h : off + cs.length ≤ row.length) : (setAt row off cs).length = row.length := by
  simp [setAt]; omega

theorem VL.get {E : AEnv} {row : List PV} {c : Array Value} (h : VL E row (c.toList.take row.length)) (hl : row.length ≤ c.size) :
    ∀ i x, row[i]? = some x → V E x (c.getD i undef) ∧ (c.getD i undef).oneCell' = true := by
  intro i x hx
  have hlt : i < row.length := (List.getElem?_eq_some_iff.1 hx).1
  refine h.2 i x _ hx ?_
  have : i < c.size := by omega
  rw [List.getElem?_take, if_pos hlt, Array.getD_eq_getD_getElem?]
  simp [this]

section
variable {C : Ctx} {s : ASt} {a : Act} {w : World}

/-- An object's row turns where it lies. -/
theorem At.turn {ι : Nat → Option Nat} {I : Nat → Prop} {hp : HP} (k : At C ι I hp w) {id ver : Nat} (hv : (hp id).1 ≤ ver) {e : TypeId} {row : List PV} (ho : (hp id).2 = some (.cells e row)) {b : Nat} (hb : ι id = some b)
    {c c' : Array Value} (hc : w.heap[b]? = some (.cells c e (0, 0))) (hs : c'.size = c.size) (row' : List PV) (hl : row'.length ≤ c.size)
    (hr : VL ⟨C.E0.P, hp, ι, I, C.E0.A, w.heap⟩ row' (c'.toList.take row'.length)) :
    At C (upd ι id (some b)) I (upd hp id (ver, some (.cells e row'))) (w.setRow b c') ∧
    Le ⟨C.E0.P, hp, ι, I, C.E0.A, w.heap⟩ ⟨C.E0.P, upd hp id (ver, some (.cells e row')), upd ι id (some b), I, C.E0.A, (w.setRow b c').heap⟩ := by
  have hib : (w.setRow b c').heap[b]? = some (.cells c' e (0, 0)) := setRow_heap w b c _ e _ hc
  obtain ⟨n1, n2, _⟩ := k.hok.atSome id _ b ho hb
  refine k.change id ver (some (.cells e row')) (some b) I hv (fun _ x hx => ⟨⟨_, ho, hb.symm⟩, fun e' r' hxx => ?_⟩) rfl rfl rfl (by simp)
    (fun b' hb' hne => setRow_other w b b' _ (fun e => by subst e; exact hne _ ho hb)) (fun _ h => h) (fun _ h => .inl h)
    (fun b' hb' => by have := k.hok.bound b' (.inl hb'); simpa using this) (fun jd o' b' hne ho' hi' => ⟨(k.hok.atSome jd o' b' ho' hi').1, fun hbb => ?_⟩) (fun _ _ h => by cases h) (fun x' b' hx' hb' => ?_)
  · simp only [Option.some.injEq] at hx; subst hx; simp only [AObj.cells.injEq] at hxx; obtain ⟨rfl, rfl⟩ := hxx
    refine ⟨row, ho, fun b' hb' => ?_⟩
    have : b' = b := by rw [hb] at hb'; simpa using hb'.symm
    subst this
    exact ⟨c, c', hc, hib, hs⟩
  · exact absurd (k.hok.inj jd id o' _ b' ho' ho hi' (hb.trans hbb)) hne
  · simp only [Option.some.injEq] at hx' hb'; subst hx'; subst hb'
    refine ⟨n1, n2, .inl ⟨_, ho, hb⟩, fun E' L hE _ _ => ⟨c', by rw [hE]; exact hib, by rw [hs]; exact hl, ?_⟩⟩
    exact (hr.mono L).get (by rw [hs]; exact hl)

/-- store. -/
def fStore (P : Program) (hp : HP) (t : TypeId) (p x : PV) : Out :=
  match tyT P t, p, cellsOf x with
  | some (_, n), .ptr id ver off, some cs =>
    match hp id with
    | (v, some (.cells e row)) => (ver = v ∧ cs.length = n ∧ off + n ≤ row.length ∧ fitsP hp cs, ⟨.dead, some (id, v, some (.cells e (setAt row off cs)))⟩)
    | _ => no
  | _, _, _ => no

theorem run_storeVar {P : Program} {t : TypeId} {ag : Bool} {n : Nat} (ht : tyT P t = some (ag, n)) {b off : Nat} {c : Array Value} {e : TypeId} (hc : w.heap[b]? = some (.cells c e (0, 0))) {v : Value}
    (hn : v.cells.toList.length = n) (h1 : ∀ u ∈ v.cells.toList, u.oneCell' = true) (hl : off + n ≤ c.size) :
    ∃ c' : Array Value, c'.size = c.size ∧ c'.toList = c.toList.take off ++ v.cells.toList ++ c.toList.drop (off + n) ∧ (storeVar t ⟨b, off, none⟩ v).run P w = .ok () (w.setRow b c') := by
  obtain ⟨_, hsz, _⟩ := tyT_run ht w
  have hs2 : v.cells.size = n := by simpa using hn
  have hst := run_storeCells_at P b off e v.cells.toList 0 c w hc (by simp only [Nat.add_zero, hn]; exact hl) h1
  refine ⟨(c.toList.take off ++ v.cells.toList ++ c.toList.drop (off + n)).toArray, by simp at hn ⊢; omega, rfl, ?_⟩
  simp only [Nat.add_zero, hn] at hst
  simp only [storeVar, Sem.run_bind, hsz, Result.andThen_ok, hs2, ne_eq, not_true, if_false, hst]

theorem store_sound (r : Rel C s a w) {o : Oper} {K : Act → World → Prop} {Q : Exit → Act → World → Prop} (hd : ∀ d, o.dst = some d → d < C.n) {t : TypeId} {p x : Operand} (ho : o.op = .store t p x)
    (hc : (fStore C.E0.P s.hp t (s.ev p) (s.ev x)).1) (hk : ∀ a' w', Rel C (s.app o.dst (fStore C.E0.P s.hp t (s.ev p) (s.ev x)).2) a' w' → K a' w') : o.wp C.E0.P a w K Q := by
  have he : (execOp a.eval o) = (do Instr.storeAt t (a.eval p) (a.eval x); pure .skip) := by unfold execOp; rw [ho]
  generalize hep : s.ev p = pp at hc hk
  unfold fStore at hc hk
  cases ht : tyT C.E0.P t with
  | none => simp [ht, no] at hc
  | some an =>
    obtain ⟨ag, n⟩ := an
    cases hx : cellsOf (s.ev x) with
    | none => cases pp <;> simp [ht, hx, no] at hc
    | some cs =>
      cases pp <;> simp only [ht, hx] at hc hk <;> try (simp [no] at hc; done)
      rename_i id ver off
      split at hc <;> try (simp [no] at hc; done)
      rename_i v e row hh
      simp only [hh] at hk
      obtain ⟨rfl, hn, hoff, hfit⟩ := hc
      obtain ⟨h1, h2, ι, I, hat, henv⟩ := r
      have hvl := VL_cells (V_ev henv x) hx hfit
      have hp := V_ev henv p
      rw [hep] at hp
      cases hp with
      | ptr _ _ _ _ hp =>
        obtain ⟨b, hb, hvx⟩ := hp.2 (by simp [hh]) (.cells e row) (by simp [hh])
        obtain ⟨c, hcc, hl, hrow⟩ := hat.hok.row (id := id) (e := e) (row := row) (by simp [hh]) hb
        have hlc : row.length ≤ c.size := hl
        have hlv : (a.eval x).cells.toList.length = n := by rw [← hvl.1]; exact hn
        obtain ⟨c', hs, hcl, hrun⟩ := run_storeVar (w := w) (off := off) ht hcc hlv hvl.one (by omega)
        have hlen := length_setAt row off cs (by omega)
        obtain ⟨g1, g2⟩ := hat.turn (id := id) (ver := ver) (row := row) (by simp [hh]) (by simp [hh]) hb hcc hs (setAt row off cs) (by rw [hlen]; exact hl) (by
          rw [hlen, hcl]
          rcases take_setAt c.toList (a.eval x).cells.toList off n row.length hlv hoff with h | h
          · rw [h, setAt, hn]
            exact ((hrow.take off).append hvl).append (hrow.drop (off + n))
          · simp at h; omega)
        unfold Oper.wp
        rw [he, hvx]
        simp only [Sem.run_bind, Instr.storeAt, Instr.sureAddr, Sem.run_pure, Result.andThen_ok, hrun]
        have hid : id < C.T := by
          rcases Nat.lt_or_ge id (C.T) with h | h
          · exact h
          · have := h2.2 id h; simp [hh] at this
        exact hk _ _ (Rel.obj h1 h2 henv g1 g2 hid hd (.dead _))

end
end Go.Abs
