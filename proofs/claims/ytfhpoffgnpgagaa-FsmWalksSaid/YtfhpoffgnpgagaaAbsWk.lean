/- Columns that grow, each part an own slice of its own: what is told of them; calls that turn them. No condition. -/
import Derived.Test.YtfhpoffgnpgagaaAbsZb
set_option linter.unusedSimpArgs false
set_option linter.unusedVariables false
namespace Go.Abs

structure Col where
  r : List Int
  d : List Int
  v : List (Int × List UInt8)
  deriving Inhabited

def valsD (l : List (Int × List UInt8)) : List PD := l.flatMap fun x => [.int .i64 x.1, .str x.2]
theorem valsD_len (l : List (Int × List UInt8)) : (valsD l).length = l.length * 2 := flat_length _ 2 (fun _ => rfl) l

/-- The objects: the row of columns, three slices each. -/
def FootW (iC F k : Nat) (id : Nat) : Prop := id = iC ∨ (F ≤ id ∧ id < F + 3 * k)

def rowW (F : Nat) (vs : Nat → Nat) : Nat → List Col → List PV
  | _, [] => []
  | j, c :: cs => .own (F + 3 * j) (vs (3 * j)) 0 c.r.length :: .own (F + 3 * j + 1) (vs (3 * j + 1)) 0 c.d.length :: .own (F + 3 * j + 2) (vs (3 * j + 2)) 0 c.v.length :: rowW F vs (j + 1) cs

structure WkF (hp : HP) (iC vC F k : Nat) (cols : List Col) : Prop where
  len : cols.length = k
  iF : ¬ (F ≤ iC ∧ iC < F + 3 * k)
  at_ : ∃ vs : Nat → Nat, hp iC = (vC, some (.cells 36 (rowW F vs 0 cols))) ∧ ∀ (j : Nat) c, cols[j]? = some c →
    hp (F + 3 * j) = (vs (3 * j), some (.cells 3 ((isD c.r).map (PV.d true)))) ∧ hp (F + 3 * j + 1) = (vs (3 * j + 1), some (.cells 3 ((isD c.d).map (PV.d true)))) ∧ hp (F + 3 * j + 2) = (vs (3 * j + 2), some (.cells 51 ((valsD c.v).map (PV.d true))))

theorem WkF.congr {hp hp' : HP} {iC vC F k : Nat} {cols : List Col} (h : WkF hp iC vC F k cols) (e : ∀ id, FootW iC F k id → hp' id = hp id) : WkF hp' iC vC F k cols := by
  obtain ⟨h1, h2, vs, h3, h4⟩ := h
  refine ⟨h1, h2, vs, (e _ (.inl rfl)).trans h3, fun j c hc => ?_⟩
  obtain ⟨a, b, d⟩ := h4 j c hc
  have hj : j < k := by rw [← h1]; exact (List.getElem?_eq_some_iff.1 hc).1
  exact ⟨(e _ (.inr ⟨by omega, by omega⟩)).trans a, (e _ (.inr ⟨by omega, by omega⟩)).trans b, (e _ (.inr ⟨by omega, by omega⟩)).trans d⟩

theorem WkF.low {N : Nat} {hp : HP} {m : List (Nat × (Nat × Option AObj))} {iC vC F k : Nat} {cols : List Col} (h : WkF hp iC vC F k cols) (hF : ∀ id, FootW iC F k id → id < N) : WkF (hpL N hp m) iC vC F k cols := h.congr fun id hid => hpL_low (hF id hid)

theorem rowW_loc {N F : Nat} {vs : Nat → Nat} : ∀ (cs : List Col) (j : Nat), F + 3 * (j + cs.length) ≤ N → locsOK N (rowW F vs j cs)
  | [], _, _ => trivial
  | c :: cs, j, h => by
    simp only [List.length_cons] at h
    exact ⟨by show F + 3 * j < N; omega, by show F + 3 * j + 1 < N; omega, by show F + 3 * j + 2 < N; omega, rowW_loc cs (j + 1) (by omega)⟩

theorem WkF.lowOK {N : Nat} {hp h : HP} {iC vC F k : Nat} {cols : List Col} (hW : WkF h iC vC F k cols) (hF : ∀ id, FootW iC F k id → id < N) (he : ∀ id, id < N → ¬ FootW iC F k id → h id = hp id) : lowOK N hp h := by
  intro id hid
  by_cases hf : FootW iC F k id
  · right
    intro e row hr
    obtain ⟨h1, h2, vs, h3, h4⟩ := hW
    rcases hf with rfl | ⟨g1, g2⟩
    · rw [h3] at hr; simp at hr
      rw [← hr.2]
      rcases Nat.eq_zero_or_pos k with hk | hk
      · have : cols = [] := List.length_eq_zero_iff.1 (by omega)
        subst this
        exact trivial
      · refine rowW_loc cols 0 ?_
        have := hF (F + 3 * k - 1) (.inr ⟨by omega, by omega⟩)
        omega
    · have hj : (id - F) / 3 < cols.length := by rw [h1]; omega
      obtain ⟨a, b, c⟩ := h4 ((id - F) / 3) cols[(id - F) / 3] (by simp [hj])
      have : id = F + 3 * ((id - F) / 3) ∨ id = F + 3 * ((id - F) / 3) + 1 ∨ id = F + 3 * ((id - F) / 3) + 2 := by omega
      rcases this with e' | e' | e'
      · rw [← e'] at a; rw [a] at hr; simp at hr; rw [← hr.2]; exact locs_R (N := N) (isD _)
      · rw [← e'] at b; rw [b] at hr; simp at hr; rw [← hr.2]; exact locs_R (N := N) (isD _)
      · rw [← e'] at c; rw [c] at hr; simp at hr; rw [← hr.2]; exact locs_R (N := N) (valsD _)
  · exact .inl (he id hid hf)

theorem hpL_congr {N : Nat} {hp hp1 : HP} {id : Nat} (e : hp1 id = hp id) : ∀ {m : List (Nat × (Nat × Option AObj))}, hpL N hp1 m id = hpL N hp m id
  | [] => e
  | (d, o) :: m => by
    simp only [hpL, upd]
    split
    · rfl
    · exact hpL_congr e

section
variable {C : Ctx} {N : Nat} {l : List (Nat × PV)} {gs : List (Option Tmp)} {rest : List Oper} {K : ASt → Prop} {ty : TypeId} {pos : String} {aft : Array Edge}
  {d : Nat} {fv : Operand} {as : Array Operand} {ats : Array TypeId} {f : FuncId} {first caps args args' : List PV} {r : PV}
/-- A call that turns what is told by W, at the places of Foot, and nothing else. -/
theorem goL_ch {W : HP → Prop} {Foot : Nat → Prop} {hp : HP} {m : List (Nat × (Nat × Option AObj))} (hcong : ∀ h h' : HP, (∀ id, Foot id → h' id = h id) → W h → W h') (hF : ∀ id, Foot id → id < N)
    (hf : calleeP ((⟨envL l, hpL N hp m⟩ : ASt).ev fv) = some (f, first, caps)) (hargs : first ++ evs ⟨envL l, hpL N hp m⟩ as ++ caps = args) (hw : WkL args args') (he : enterOK C.E0.P f = true) (hd : dstOK C.n ⟨some d, .call ⟨.value fv, as, ats⟩, ty, pos, aft, none⟩ = true)
    (hA : ACalls C.E0.P f C.T args' (hpL N hp m) fun r' hp' => r' = r ∧ W hp' ∧ ∀ id, ¬ Foot id → hp' id = hpL N hp m id)
    (hk : ∀ hp1, W hp1 → (∀ id, ¬ Foot id → hp1 id = hp id) → goL C gs rest ⟨envL ((d, r) :: l), hpL N hp1 m⟩ K) : goL C gs (⟨some d, .call ⟨.value fv, as, ats⟩, ty, pos, aft, none⟩ :: rest) ⟨envL l, hpL N hp m⟩ K := by
  rw [goL_call]
  refine ⟨hd, callL hf hargs he hd (ACalls.weak hw hA) ?_⟩
  rintro r' hp' ⟨rfl, hW, hfr⟩
  simp only [ASt.put, envL_upd]
  classical
  let hp1 : HP := fun id => if Foot id then hp' id else hp id
  have e : hpL N hp1 m = hp' := by
    funext id
    by_cases h : Foot id
    · rw [hpL_low (hF id h)]; simp only [hp1, h, if_true]
    · rw [hfr id h]
      exact hpL_congr (by simp only [hp1, h, if_false])
  rw [← e]
  exact hk hp1 (hcong hp' hp1 (fun id h => by simp only [hp1, h, if_true]) hW) (fun id h => by simp only [hp1, h, if_false])
end

theorem ret0_hid {P : Program} {n N : Nat} {hp0 hp : HP} {X : Ext} {env : Nat → PV} {m : List (Nat × (Nat × Option AObj))} {iC vC F k : Nat} {cols : List Col} (hW : WkF hp iC vC F k cols) (hF : ∀ id, FootW iC F k id → id < N) (low : ∀ id, id < N → ¬ FootW iC F k id → hp id = hp0 id) {e : Exit} (he : e = .normal ∨ e = .ret) :
    retA (mkC n N P hp0 X) [] (fun r' hp' => r' = .d true (.tup []) ∧ WkF hp' iC vC F k cols ∧ ∀ id, ¬ FootW iC F k id → hp' id = hp0 id) e ⟨env, hpL N hp m⟩ := by
  have hW2 : WkF (fun id => if id < N then hp id else hp0 id) iC vC F k cols := hW.congr fun id h => if_pos (hF id h)
  refine retn (ds := []) (by decide) ResL.nil (hp2 := fun id => if id < N then hp id else hp0 id) (fun id hid => ?_) (fun id hid => if_neg (by omega)) (hW2.lowOK hF fun id hid nf => ?_) ⟨rfl, hW2, fun id nf => ?_⟩ he
  · simp only [if_pos hid]; exact hpL_low hid
  · simp only [if_pos hid]; exact low id hid nf
  · by_cases h : id < N
    · simp only [if_pos h]; exact low id h nf
    · simp only [if_neg h]
end Go.Abs
namespace Go.Abs
/-- A call whose own objects are named below its caller's bound: they may stay. -/
def mkB (n NT N : Nat) (P : Program) (hp : HP) (X : Ext) (h : N + n ≤ NT) : Ctx := mkCn n NT NT P hp X (fun d => N + d) fun d hd => by omega

theorem Gh.letgoR {C : Ctx} {env : Nat → PV} (N : Nat) (keep : List Nat) : ∀ (k : Nat) (h : HP), Gh C ⟨env, h⟩ ⟨env, fun id => if N ≤ id ∧ id < N + k ∧ keep.contains (id - N) = false then ((h id).1, none) else h id⟩
  | 0, h => by
    have : (fun id => if N ≤ id ∧ id < N + 0 ∧ keep.contains (id - N) = false then ((h id).1, (none : Option AObj)) else h id) = h := by
      funext id; rw [if_neg (by omega)]
    rw [this]; exact Gh.refl _
  | k + 1, h => by
    have ih := Gh.letgoR (C := C) (env := env) N keep k h
    by_cases hk : keep.contains k = false
    · refine ih.trans ?_
      have := Gh.letgo (C := C) (s := ⟨env, fun id => if N ≤ id ∧ id < N + k ∧ keep.contains (id - N) = false then ((h id).1, none) else h id⟩) (N + k)
      refine cast ?_ this
      congr 2
      funext id
      simp only [upd]
      by_cases e : id = N + k
      · subst e
        rw [if_pos rfl, if_neg (by omega), if_pos ⟨by omega, by omega, by rw [Nat.add_sub_cancel_left]; exact hk⟩]
      · rw [if_neg e]
        by_cases h1 : N ≤ id ∧ id < N + k ∧ keep.contains (id - N) = false
        · rw [if_pos h1, if_pos ⟨h1.1, by omega, h1.2.2⟩]
        · rw [if_neg h1, if_neg (fun h2 => h1 ⟨h2.1, by omega, h2.2.2⟩)]
    · have : (fun id => if N ≤ id ∧ id < N + (k + 1) ∧ keep.contains (id - N) = false then ((h id).1, (none : Option AObj)) else h id) = fun id => if N ≤ id ∧ id < N + k ∧ keep.contains (id - N) = false then ((h id).1, none) else h id := by
        funext id
        by_cases e : id = N + k
        · subst e
          rw [if_neg (fun h2 => hk (by have := h2.2.2; rwa [Nat.add_sub_cancel_left] at this)), if_neg (by omega)]
        · by_cases h1 : N ≤ id ∧ id < N + k ∧ keep.contains (id - N) = false
          · rw [if_pos ⟨h1.1, by omega, h1.2.2⟩, if_pos h1]
          · rw [if_neg (fun h2 => h1 ⟨h2.1, by omega, h2.2.2⟩), if_neg h1]
      rw [this]; exact ih

theorem ret_esc {P : Program} {n NT N : Nat} {hp0 hpx : HP} {X : Ext} {h : N + n ≤ NT} {env : Nat → PV} {m : List (Nat × (Nat × Option AObj))} {t d v : Nat} {Q : PV → HP → Prop} {Q' : Exit → ASt → Prop} (keep : List Nat) (hQ : ∀ s, retA (mkB n NT N P hp0 X h) [.tmp t] Q .ret s → Q' .ret s)
    (hkn : ∀ k, keep.contains k = true → k < n) (ht : env t = .ptr (N + d) v 0) (hd : d < n) (hm : ∀ k, (∃ o, (k, o) ∈ m) → k < n) (low : ∀ id, ¬ (N ≤ id ∧ id < N + n) → hpx id = hp0 id)
    (hk : ∀ k, keep.contains k = true → ∃ v e row, hpL N hpx m (N + k) = (v, some (.cells e row)) ∧ locsOK NT row)
    (hq : ∀ hp', (∀ k, keep.contains k = true → hp' (N + k) = hpL N hpx m (N + k)) → (∀ k, k < n → keep.contains k = false → (hp' (N + k)).2 = none) → (∀ id, ¬ (N ≤ id ∧ id < N + n) → hp' id = hp0 id) → Q (.ptr (N + d) v 0) hp') :
    awp (mkB n NT N P hp0 X h) .ret Q' ⟨env, hpL N hpx m⟩ := by
  refine awp_gh (Gh.letgoR N keep n _) (awp_ret (hQ _ ?_))
  have hout : ∀ id, ¬ (N ≤ id ∧ id < N + n) → hpL N hpx m id = hp0 id := by
    intro id hid
    rw [← low id hid]
    clear hk hq
    induction m with
    | nil => rfl
    | cons p m ih =>
      obtain ⟨dd, o⟩ := p
      have h1 := hm dd ⟨o, by simp⟩
      have : id ≠ N + dd := by omega
      simp only [hpL, upd, this, if_false]
      exact ih fun k ⟨o, ho⟩ => hm k ⟨o, by simp [ho]⟩
  have e : normP (PV.ptr (N + d) v 0) = .ptr (N + d) v 0 := rfl
  show retP _ [.tmp t] Q _
  simp only [retP, resPs, resP, val, ht, e]
  refine ⟨⟨trivial, trivial⟩, hq _ (fun k hkk => ?_) (fun k hkn hkk => ?_) (fun id hid => ?_), ?_, fun id hid => ?_⟩
  · obtain ⟨v', e', row, h1, _⟩ := hk k hkk
    by_cases hl : N + k < NT
    · simp only [cutN, mkB, mkCn, hl, if_true]
      rw [if_neg (fun h2 => by have := h2.2.2; rw [Nat.add_sub_cancel_left, hkk] at this; cases this)]
    · have := hkn k hkk; omega
  · have hl : N + k < NT := by omega
    simp only [cutN, mkB, mkCn, hl, if_true]
    rw [if_pos ⟨by omega, by omega, by rw [Nat.add_sub_cancel_left]; exact hkk⟩]
  · by_cases hl : id < NT
    · simp only [cutN, mkB, mkCn, hl, if_true]
      rw [if_neg (fun h2 => hid ⟨h2.1, h2.2.1⟩)]
      exact hout id hid
    · simp only [cutN, mkB, mkCn, hl, if_false]
  · show N + d < NT
    omega
  · by_cases hr : N ≤ id ∧ id < N + n
    · right
      intro e' row hrow
      by_cases hkk : keep.contains (id - N) = true
      · obtain ⟨v', e2, row2, h1, h2⟩ := hk (id - N) hkk
        rw [show N + (id - N) = id by omega] at h1
        have : (if N ≤ id ∧ id < N + n ∧ keep.contains (id - N) = false then ((hpL N hpx m id).1, none) else hpL N hpx m id) = hpL N hpx m id := if_neg (fun h2 => by rw [hkk] at h2; cases h2.2.2)
        have hrow' : (if N ≤ id ∧ id < N + n ∧ keep.contains (id - N) = false then ((hpL N hpx m id).1, none) else hpL N hpx m id).2 = some (.cells e' row) := hrow
        rw [this, h1] at hrow'
        simp only [Option.some.injEq, AObj.cells.injEq] at hrow'
        rw [← hrow'.2]; exact h2
      · have : (if N ≤ id ∧ id < N + n ∧ keep.contains (id - N) = false then ((hpL N hpx m id).1, none) else hpL N hpx m id) = ((hpL N hpx m id).1, none) := if_pos ⟨hr.1, hr.2, by simpa using hkk⟩
        have hrow' : (if N ≤ id ∧ id < N + n ∧ keep.contains (id - N) = false then ((hpL N hpx m id).1, none) else hpL N hpx m id).2 = some (.cells e' row) := hrow
        rw [this] at hrow'
        cases hrow'
    · left
      have : (if N ≤ id ∧ id < N + n ∧ keep.contains (id - N) = false then ((hpL N hpx m id).1, none) else hpL N hpx m id) = hpL N hpx m id := if_neg (fun h2 => hr ⟨h2.1, h2.2.1⟩)
      simp only [this]
      exact hout id hr
end Go.Abs
namespace Go.Abs
theorem low_esc {N n : Nat} {hpx hp : HP} {m : List (Nat × (Nat × Option AObj))} (low : ∀ id, ¬ (N ≤ id ∧ id < N + n) → hpx id = hp id) (hm : ∀ k, k ∈ m.map (·.1) → k < n) : ∀ id, ¬ (N ≤ id ∧ id < N + n) → hpL N hpx m id = hp id := by
  intro id hid
  rw [← low id hid]
  induction m with
  | nil => rfl
  | cons p m ih =>
    obtain ⟨dd, o⟩ := p
    have h1 := hm dd (by simp)
    have : id ≠ N + dd := by omega
    simp only [hpL, upd, this, if_false]
    exact ih fun k hk => hm k (by simp at hk ⊢; exact .inr hk)
end Go.Abs
