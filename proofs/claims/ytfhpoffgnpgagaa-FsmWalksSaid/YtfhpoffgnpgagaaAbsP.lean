/- A drawn region, walked once in the text's order. No condition. -/
import Derived.Test.YtfhpoffgnpgagaaAbsO
set_option linter.unusedSimpArgs false
set_option linter.unusedVariables false
namespace Go.Abs

def itemK (C : Ctx) (ops : Array Oper) (s : ASt) (o : Oper) (K : Eff → List Nat → Prop) : Prop :=
  match o.op with
  | .call { callee := .value _, .. } => ∃ r rd, (∀ s' : ASt, (∀ t ∈ o.looksAt ops, s'.env t = s.env t) → Agree rd s'.hp s.hp → Sem1 C s' o ⟨r, none⟩) ∧ K ⟨r, none⟩ rd
  | _ => (fstep C.E0.P C.nm s o).1 ∧ K (fstep C.E0.P C.nm s o).2 (rdOf C.nm s o ++ wrE (fstep C.E0.P C.nm s o).2)

def goT (C : Ctx) (ops : Array Oper) : List Oper → ASt → (List (List Nat × List Nat) → ASt → Prop) → Prop
  | [], s, K => K [] s
  | o :: rest, s, K => dstOK C.n o = true ∧ match wantP ops s o with
    | some t => (t = true → itemK C ops s o fun e rd => goT C ops rest (s.app o.dst e) fun l s' => K ((wrE e, rd) :: l) s') ∧
        (t = false → goT C ops rest (s.put o.dst und) fun l s' => K (([], []) :: l) s')
    | none => False

def objsY (r : Nat → Nat → Bool) (i : Nat) (ws : List Nat) : Nat → List (List Nat × List Nat) → Prop
  | _, [] => True
  | j, y :: l => (i = j ∨ r i j = true ∨ r j i = true ∨ ∀ id ∈ ws, id ∉ y.2) ∧ objsY r i ws (j + 1) l

def objsW (r : Nat → Nat → Bool) (all : List (List Nat × List Nat)) : Nat → List (List Nat × List Nat) → Prop
  | _, [] => True
  | i, ([], _) :: l => objsW r all (i + 1) l
  | i, (w :: ws, _) :: l => objsY r i (w :: ws) 0 all ∧ objsW r all (i + 1) l

theorem objsY_out {r : Nat → Nat → Bool} {i : Nat} {ws : List Nat} : ∀ (l : List (List Nat × List Nat)) (k : Nat), objsY r i ws k l → ∀ (j : Nat) y, l[j]? = some y → i = k + j ∨ r i (k + j) = true ∨ r (k + j) i = true ∨ ∀ id ∈ ws, id ∉ y.2
  | [], _, _, j, y, hy => by simp at hy
  | x :: l, k, h, j, y, hy => by
    obtain ⟨h1, h2⟩ := h
    cases j with
    | zero => simp at hy; subst hy; exact h1
    | succ j =>
      have := objsY_out l (k + 1) h2 j y (by simpa using hy)
      rw [show k + (j + 1) = k + 1 + j by omega]
      exact this

theorem objsW_out {r : Nat → Nat → Bool} {all : List (List Nat × List Nat)} : ∀ (l : List (List Nat × List Nat)) (k : Nat), objsW r all k l → ∀ (i : Nat) x, l[i]? = some x → x.1 ≠ [] → objsY r (k + i) x.1 0 all
  | [], _, _, i, x, hx, _ => by simp at hx
  | (ws, rd) :: l, k, h, i, x, hx, hne => by
    have step : objsW r all (k + 1) l := by
      cases ws with
      | nil => exact h
      | cons w ws => exact h.2
    cases i with
    | zero =>
      simp at hx; subst hx
      cases ws with
      | nil => simp at hne
      | cons w ws => exact h.1
    | succ i =>
      have := objsW_out l (k + 1) step i x (by simpa using hx) hne
      rw [show k + (i + 1) = k + 1 + i by omega]
      exact this

section
variable {C : Ctx} {ops : Array Oper}

theorem phi_shift (L : Nat → Bool) : ∀ (its : List Item) (k : Nat) (s : ASt), phi L (k + 1) its s = phi (fun j => L (j + 1)) k its s
  | [], _, _ => rfl
  | it :: r, k, s => by simp only [phi]; exact phi_shift L r (k + 1) _

theorem phi_none : ∀ (its : List Item) (k : Nat) (s : ASt), phi (fun _ => false) k its s = s
  | [], _, _ => rfl
  | it :: r, k, s => by simp only [phi]; exact phi_none r (k + 1) s

theorem itemK_out {s : ASt} {o : Oper} {K : Eff → List Nat → Prop} (h : itemK C ops s o K) (hd : dstOK C.n o = true) (hw : wantP ops s o = some true) :
    ∃ it : Item, it.o = o ∧ ItemOK C ops s it ∧ (∀ id ∈ wrE it.eff, id ∈ it.rd) ∧ K it.eff it.rd := by
  unfold itemK at h
  split at h
  · obtain ⟨r, rd, h1, h2⟩ := h
    refine ⟨⟨o, ⟨r, none⟩, rd, true⟩, rfl, fun s' e1 e2 => .inl ⟨rfl, ?_, h1 s' e1 e2⟩, by simp [wrE], h2⟩
    rw [← hw]; exact wantP_congr e1
  · refine ⟨⟨o, (fstep C.E0.P C.nm s o).2, rdOf C.nm s o ++ wrE (fstep C.E0.P C.nm s o).2, true⟩, rfl, fun s' e1 e2 => .inl ⟨rfl, ?_, ?_⟩, fun id hid => by simp [hid], h.2⟩
    · rw [← hw]; exact wantP_congr e1
    · have e := fstep_congr (P := C.E0.P) (nm := C.nm) e1 (fun id hid => e2 id (by simp [hid]))
      intro a w r next Q hn
      simp only at hn ⊢
      rw [← e] at hn
      exact step_sound r (dstOK.out hd) (dstOK.pos hd) (by rw [e]; exact h.1) hn

theorem goT_out : ∀ (l : List Oper) (s : ASt) (K : List (List Nat × List Nat) → ASt → Prop), goT C ops l s K →
    ∃ its : List Item, its.map (·.o) = l ∧ (∀ (i : Nat) it, its[i]? = some it → ItemOK C ops (phi (fun j => decide (j < i)) 0 its s) it ∧ dstOK C.n it.o = true ∧ ∀ id ∈ wrE it.eff, id ∈ it.rd) ∧
      ∃ tr : List (List Nat × List Nat), tr.length = its.length ∧ (∀ (i : Nat) it x, its[i]? = some it → tr[i]? = some x → x = (wrE it.eff, it.rd)) ∧ K tr (phi (fun _ => true) 0 its s)
  | [], s, K, h => ⟨[], rfl, by simp, [], rfl, by simp, h⟩
  | o :: rest, s, K, h => by
    obtain ⟨hd, h⟩ := h
    have fin : ∀ (it : Item), it.o = o → ItemOK C ops s it → (∀ id ∈ wrE it.eff, id ∈ it.rd) → goT C ops rest (s.app o.dst it.eff) (fun l s' => K ((wrE it.eff, it.rd) :: l) s') → ∃ its : List Item, its.map (·.o) = o :: rest ∧ (∀ (i : Nat) it, its[i]? = some it → ItemOK C ops (phi (fun j => decide (j < i)) 0 its s) it ∧ dstOK C.n it.o = true ∧ ∀ id ∈ wrE it.eff, id ∈ it.rd) ∧
      ∃ tr : List (List Nat × List Nat), tr.length = its.length ∧ (∀ (i : Nat) it x, its[i]? = some it → tr[i]? = some x → x = (wrE it.eff, it.rd)) ∧ K tr (phi (fun _ => true) 0 its s) := by
      intro it e1 e2 e3 hg
      obtain ⟨its, m1, m2, tr, m3, m4, m5⟩ := goT_out rest _ _ hg
      refine ⟨it :: its, by simp [e1, m1], fun i x hx => ?_, (wrE it.eff, it.rd) :: tr, by simp [m3], fun i x y hx hy => ?_, ?_⟩
      · cases i with
        | zero =>
          simp at hx; subst hx
          have : phi (fun j => decide (j < 0)) 0 (it :: its) s = s := by
            have : (fun j => decide (j < 0)) = fun _ : Nat => false := by funext j; simp
            rw [this]; exact phi_none _ 0 s
          rw [this, e1]
          exact ⟨e2, hd, e3⟩
        | succ i =>
          have := m2 i x (by simpa using hx)
          have e : phi (fun j => decide (j < i + 1)) 0 (it :: its) s = phi (fun j => decide (j < i)) 0 its (s.app o.dst it.eff) := by
            show phi (fun j => decide (j < i + 1)) (0 + 1) its (if decide (0 < i + 1) = true then s.app it.o.dst it.eff else s) = _
            rw [phi_shift]
            have : (fun j => decide (j + 1 < i + 1)) = fun j => decide (j < i) := by funext j; simp
            rw [this, e1]
            simp
          rw [e]; exact this
      · cases i with
        | zero => simp at hx hy; subst hx; exact hy.symm
        | succ i => exact m4 i x y (by simpa using hx) (by simpa using hy)
      · show K _ (phi (fun _ => true) (0 + 1) its (if true = true then s.app it.o.dst it.eff else s))
        rw [phi_shift]
        simpa [e1] using m5
    cases hw : wantP ops s o with
    | none => simp [hw] at h
    | some t =>
      simp only [hw] at h
      cases t with
      | true =>
        obtain ⟨it, e1, e2, e3, e4⟩ := itemK_out (h.1 rfl) hd hw
        exact fin it e1 e2 e3 e4
      | false =>
        refine fin ⟨o, ⟨und, none⟩, [], false⟩ rfl (fun s' e1 _ => .inr ⟨rfl, ?_, rfl⟩) (by simp [wrE]) (h.2 rfl)
        rw [← hw]; exact wantP_congr e1

/-- A DRAWN REGION: its first m operations are free; the others each behind all ahead of them. r: what is known to be ahead of what. -/
theorem awp_draw {id : Nat} {Q : Exit → ASt → Prop} {s : ASt} (f m : Nat) (r : Nat → Nat → Bool) (hm : C.E0.P.follows .mixedOrders = true) (h1 : slotsB ops f = true) (h2 : tailB ops f m = true) (hlt : m ≤ ops.size)
    (hr : ∀ i j, r i j = true → reachB ops f i j = true)
    (h : goT C ops (ops.toList.take m) s fun tr s' => objsW r tr 0 tr ∧ goOps C ops (ops.toList.drop m) s' (Q .normal)) : awp C (.region id ops true) Q s := by
  obtain ⟨its, m1, m2, tr, m3, m4, m5, m6⟩ := goT_out _ _ _ h
  have hlen : its.length = m := by
    have := congrArg List.length m1
    simp at this; omega
  have hop : ∀ (i : Nat) it, its[i]? = some it → ops[i]? = some it.o := by
    intro i it hi
    have h3 : (ops.toList.take m)[i]? = some it.o := by rw [← m1]; simp [hi]
    rw [List.getElem?_take] at h3
    split at h3
    · simpa using h3
    · cases h3
  have hb : backB ops = true := by have := h1; unfold slotsB at this; simp only [Bool.and_eq_true] at this; exact this.1
  have key : ∀ (g a b : Nat), reachB ops g a b = true → a < b := by
    intro g
    induction g with
    | zero => intro a b h; simp [reachB] at h
    | succ g ih =>
      intro a b h
      simp only [reachB] at h
      split at h
      · cases h
      · rename_i o ho
        have back : ∀ e ∈ o.after, Region.binds .any e = true → e.on < b := by
          intro e he hbd
          unfold backB at hb
          simp only [List.all_eq_true, List.mem_range] at hb
          have h1 := hb b (Array.getElem?_eq_some_iff.1 ho).1
          simp only [ho, Array.all_eq_true_iff_forall_mem] at h1
          have := h1 e he
          simpa [hbd] using this
        simp only [Bool.or_eq_true, Array.any_eq_true'] at h
        rcases h with ⟨e, he, hb⟩ | ⟨e, he, hb⟩
        · simp only [Bool.and_eq_true, beq_iff_eq] at hb
          rw [← hb.2]; exact back e he hb.1
        · simp only [Bool.and_eq_true] at hb
          exact Nat.lt_trans (ih _ _ hb.2) (back e he hb.1)
  have one : ∀ (i j : Nat) x y, i ≠ j → its[i]? = some x → its[j]? = some y → (i < j → reachB ops f i j = false) → (j < i → reachB ops f j i = false) → ∀ id ∈ wrE x.eff, id ∉ y.rd := by
    intro i j x y hne hx hy hr1 hr2 id hid
    have hti : ∃ t, tr[i]? = some t := ⟨tr[i]'(by rw [m3]; exact (List.getElem?_eq_some_iff.1 hx).1), by simp [m3, (List.getElem?_eq_some_iff.1 hx).1]⟩
    have htj : ∃ t, tr[j]? = some t := ⟨tr[j]'(by rw [m3]; exact (List.getElem?_eq_some_iff.1 hy).1), by simp [m3, (List.getElem?_eq_some_iff.1 hy).1]⟩
    obtain ⟨ti, hti⟩ := hti
    obtain ⟨tj, htj⟩ := htj
    have ei := m4 i x ti hx hti
    have ej := m4 j y tj hy htj
    have hw := objsW_out tr 0 m5 i ti hti (by rw [ei]; intro h; simp only at h; rw [h] at hid; cases hid)
    rw [Nat.zero_add] at hw
    rcases objsY_out tr 0 hw j tj htj with h | h | h | h
    · rw [Nat.zero_add] at h; exact absurd h hne
    · rw [Nat.zero_add] at h
      have h := hr _ _ h
      have := key _ _ _ h
      rw [hr1 this] at h; cases h
    · rw [Nat.zero_add] at h
      have h := hr _ _ h
      have := key _ _ _ h
      rw [hr2 this] at h; cases h
    · have := h id (by rw [ei]; exact hid)
      rw [ej] at this
      exact this
  have T : TraceOK C ops f s its := by
    refine ⟨by omega, by rw [hlen]; exact h2, hop, fun i it hi => (m2 i it hi).1, fun i it hi => (m2 i it hi).2.1, fun i it hi => (m2 i it hi).2.2, h1, fun i j x y hij hx hy hr => ⟨?_, ?_⟩⟩
    · exact one i j x y (by omega) hx hy (fun _ => hr) (fun h => by omega)
    · exact one j i y x (by omega) hy hx (fun h => by omega) (fun _ => hr)
  exact awp_region_draw T hm (by rw [hlen]; exact m6)

end

/-- A call in a drawn region, by a contract that leaves all as it was. -/
theorem itemK_call {C : Ctx} {ops : Array Oper} {s : ASt} {o : Oper} {fv : Operand} {as : Array Operand} {ats : Array TypeId} (ho : o.op = .call { callee := .value fv, args := as, argTypes := ats }) {f : FuncId} {first caps : List PV}
    (hf : calleeP (s.ev fv) = some (f, first, caps)) (he : enterOK C.E0.P f = true) {r : PV} (rd : List Nat) (hA : ∀ hp, Agree rd hp s.hp → ACalls C.E0.P f (C.T) (first ++ evs s as ++ caps) hp fun r' hp' => r' = r ∧ hp' = hp) (hd : dstOK C.n o = true)
    {K : Eff → List Nat → Prop} (hK : K ⟨r, none⟩ rd) : itemK C ops s o K := by
  unfold itemK
  simp only [ho]
  refine ⟨r, rd, fun s' e1 e2 => ?_, hK⟩
  have hev : ∀ x ∈ o.op.operands, s'.ev x = s.ev x := fun x hx => ev_congr e1 hx
  have e3 : s'.ev fv = s.ev fv := hev fv (by rw [ho]; simp [Op.operands, Call.operands])
  have e4 : evs s' as = evs s as := List.map_congr_left fun x hx => hev x (by rw [ho]; simp [Op.operands, Call.operands]; right; simpa using hx)
  intro a w hr next Q hn
  have hA' := hA s'.hp e2
  rw [← e4] at hA'
  refine callStep (Q := fun r' hp' => r' = r ∧ hp' = s'.hp) (K := fun t => t = s'.put o.dst r) ho (by rw [e3]; exact hf) he hA' hd (fun r' hp' h => ?_) a w hr next Q fun t a' w' ht hr' => ?_
  · obtain ⟨rfl, rfl⟩ := h
    cases o.dst <;> rfl
  · subst ht
    exact hn a' w' hr'

end Go.Abs
