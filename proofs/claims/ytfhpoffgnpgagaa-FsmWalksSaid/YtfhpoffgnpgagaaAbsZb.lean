/- More unseen steps; calls in drawn regions. No condition. -/
import Derived.Test.YtfhpoffgnpgagaaAbsZ
set_option linter.unusedSimpArgs false
set_option linter.unusedVariables false
namespace Go.Abs
section
variable {C : Ctx} {N : Nat} {hp : HP} {l : List (Nat × PV)} {m : List (Nat × (Nat × Option AObj))} {Q : Exit → ASt → Prop} {c : Code}

theorem Gh.virtE {t d : Nat} {k : Bool} (e : TypeId) (hdn : N + d < C.T) (ht : envL l t = .d k .nil) : Gh C ⟨envL l, hpL N hp m⟩ ⟨envL ((t, .own (N + d) ((hpL N hp m (N + d)).1 + 1) 0 0) :: l), hpL N hp ((d, ((hpL N hp m (N + d)).1 + 1, some (.cells e (([] : List PD).map (PV.d true))))) :: m)⟩ := by
  have g := Gh.virtual (C := C) (s := ⟨envL l, hpL N hp m⟩) (N + d) hdn [t] e
  have e2 := envL_set (l := l) (t := t) (g := ownNil (N + d) ((hpL N hp m (N + d)).1 + 1)) (x := .own (N + d) ((hpL N hp m (N + d)).1 + 1) 0 0) (by rw [ht]; rfl)
  rw [e2] at g
  exact g
/-- The same for a nil in an object's row. -/
theorem Gh.virtC {d j i v : Nat} {k : Bool} (e : TypeId) {et : TypeId} {row row' : List PV} (hdn : N + d < C.T) (hj : hpL N hp m (N + j) = (v, some (.cells et row))) (hi : row[i]? = some (.d k .nil)) (hne : Nat.beq j d = false) (hr : row.set i (.own (N + d) ((hpL N hp m (N + d)).1 + 1) 0 0) = row') :
    Gh C ⟨envL l, hpL N hp m⟩ ⟨envL l, hpL N hp ((j, (v, some (.cells et row'))) :: (d, ((hpL N hp m (N + d)).1 + 1, some (.cells e (([] : List PD).map (PV.d true))))) :: m)⟩ := by
  subst hr
  have hne' : N + j ≠ N + d := by intro h; have : j = d := by omega
                                  subst this; simp at hne
  exact Gh.virtual_cell (C := C) (s := ⟨envL l, hpL N hp m⟩) (N + d) hdn e hne' hj hi
end

section
variable {C : Ctx} {s : ASt}
/-- An object is kept for good; a handle on it in another object's row is data from then on. -/
theorem Gh.freeze_cell (id jd i : Nat) {v vj len : Nat} {e ej : TypeId} {row rj : List PV} {ds : List PD} (ho : s.hp id = (v, some (.cells e row))) (h0 : (C.E0.hp id).2 = none) (hd : toDs row = some ds) (hj : s.hp jd = (vj, some (.cells ej rj))) (hne : jd ≠ id)
    (hi : rj[i]? = some (.own id v 0 len)) (hl : len * szOf C.E0.P e = ds.length) :
    Gh C s ⟨s.env, upd (upd s.hp id (v + 1, none)) jd (vj, some (.cells ej (rj.set i (.d true (.lst len ds)))))⟩ := by
  -- a slot of a state with one slot more would do; here: by the law for slots, over the cell
  intro a w ⟨g1, g2, ι, I, hat, henv⟩
  have hj2 : (s.hp jd).2 = some (.cells ej rj) := by rw [hj]
  have ho2 : (s.hp id).2 = some (.cells e row) := by rw [ho]
  have hrow : rj ≠ [] := by rintro rfl; simp at hi
  obtain ⟨b, hb⟩ : ∃ b, ι jd = some b := by
    cases hb : ι jd with
    | none => obtain ⟨e', he⟩ := hat.hok.atNone jd _ hj2 hb; simp at he; exact absurd he.2 hrow
    | some b => exact ⟨b, rfl⟩
  obtain ⟨n1, n2, c, hc, hlc, hr⟩ := hat.hok.atSome jd (.cells ej rj) b hj2 hb
  obtain ⟨u1, u2⟩ := hr i _ hi
  have hlenD := toDs_length row ds hd
  let I' : Nat → Prop := fun b => I b ∨ ι id = some b
  obtain ⟨q1, q2⟩ := hat.change (w' := w) id (v + 1) none none I' (by rw [ho]; simp) (fun hh x hx => by cases hx) rfl rfl rfl (Nat.le_refl _) (fun b hb _ => rfl) (fun b h => .inl h)
    (fun b h => by
      rcases h with h | h
      · exact .inl h
      · refine .inr (.inr ⟨_, ho2, h, ?_⟩)
        rcases Nat.lt_or_ge b C.w0.heap.size with hb | hb
        · obtain ⟨o0, e0, _⟩ := hat.stay id _ b ho2 h hb
          rw [h0] at e0; cases e0
        · exact hb)
    (fun b h => by
      rcases h with h | h
      · exact hat.hok.bound b (.inl h)
      · exact (hat.hok.atSome id _ b ho2 h).2.2.lt)
    (fun jd o b hne hj hi => by
      refine ⟨fun h => ?_, fun _ => rfl⟩
      rcases h with h | h
      · exact (hat.hok.atSome jd o b hj hi).1 h
      · exact hne (hat.hok.inj jd id o _ b hj ho2 hi h))
    (fun x hx _ => by cases hx) (fun x b hx _ => by cases hx)
  -- the handle as data
  have key : VD I' w.heap (.lst len ds) (c.getD i undef) := by
    cases u1 with
    | own _ _ _ _ _ hown =>
      obtain ⟨k1, k2⟩ := hown.2 (by simp [ho]) e row ho2
      generalize c.getD i undef = u at *
      cases hi2 : ι id with
      | none =>
        obtain ⟨rfl, _, rfl⟩ := k1 hi2
        have : ds = [] := by rw [Nat.zero_mul] at hl; exact List.length_eq_zero_iff.1 hl.symm
        subst this
        exact VD.lst0 none 0
      | some b2 =>
        obtain ⟨off', cap, c2', rfl, hlcc, hoff, hh, _⟩ := k2 b2 hi2
        by_cases hl0 : len = 0
        · subst hl0
          have : ds = [] := by rw [Nat.zero_mul] at hl; exact List.length_eq_zero_iff.1 hl.symm
          subst this
          exact VD.lst0 _ cap
        · have : off' = 0 := hoff (.inl (by omega))
          subst this
          obtain ⟨c2, hc2, hl2, hrow2⟩ := hat.hok.row (id := id) (e := e) (row := row) ho2 hi2
          have : c2 = c2' := by simp only at hc2 hh; rw [hh] at hc2; simpa using hc2.symm
          subst this
          have hl2' : row.length ≤ c2.size := hl2
          have cell : ∀ (i : Nat) d, ds[i]? = some d → VD I' w.heap d (c2.getD (0 + i) undef) ∧ (c2.getD (0 + i) undef).oneCell' = true := by
            intro i d hdd
            have hlt : i < ds.length := (List.getElem?_eq_some_iff.1 hdd).1
            have hlt2 : i < row.length := by omega
            have hlt3 : i < c2.size := by omega
            have hcx : (c2.toList.take row.length)[i]? = some c2[i] := by
              rw [List.getElem?_take, if_pos hlt2]; simp [hlt3]
            have hg : c2.getD (0 + i) undef = c2[i] := by rw [Nat.zero_add, Array.getD_eq_getD_getElem?]; simp [hlt3]
            obtain ⟨v1, v2⟩ := VL_get hrow2 (d := row[i]) (by simp [hlt2]) hcx
            rw [hg]
            exact ⟨(toD_V v1 d (toDs_get row ds hd i _ d (by simp [hlt2]) hdd)).mono (fun b hb => .inl hb) (fun _ _ => rfl), v2⟩
          have hw2 : w.heap[b2]? = some (.cells c2 e (0, 0)) := hc2
          exact .lst len ds b2 0 cap c2 e (0, 0) (.inr hi2) hw2 (by omega) hlcc (fun i d hdd => (cell i d hdd).1) (fun i d hdd => (cell i d hdd).2)
  have hu : upd s.hp id (v + 1, none) jd = (vj, some (.cells ej rj)) := by simp [upd, hne, hj]
  have hb' : upd ι id none jd = some b := by simp [upd, hne, hb]
  obtain ⟨n1', n2', c', hc', hlc', hr'⟩ := q1.hok.atSome jd (.cells ej rj) b (congrArg Prod.snd hu) hb'
  have hcc : c' = c := by simp only at hc hc'; rw [hc] at hc'; simpa using hc'.symm
  subst hcc
  obtain ⟨r1, r2⟩ := q1.change (w' := w) jd vj (some (.cells ej (rj.set i (.d true (.lst len ds))))) (some b) I' (by rw [hu]; exact Nat.le_refl _)
    (fun hh x hx => by
      simp at hx; subst hx
      refine ⟨⟨_, by rw [hu], hb'.symm⟩, fun e' r' he => ?_⟩
      simp at he
      obtain ⟨rfl, _⟩ := he
      refine ⟨rj, by rw [hu], fun b2 hb2 => ?_⟩
      have : b2 = b := by rw [hb'] at hb2; simpa using hb2.symm
      subst this
      exact ⟨c', c', hc', hc', rfl⟩)
    rfl rfl rfl (Nat.le_refl _) (fun b hb _ => rfl) (fun b h => h) (fun b h => .inl h)
    (fun b h => q1.hok.bound b (.inl h)) (fun kd o b2 hne2 hk hi2 => ⟨(q1.hok.atSome kd o b2 hk hi2).1, fun h => by
      exfalso
      have : b = b2 := by simpa using h
      subst this
      exact hne2 (q1.hok.inj kd jd o (.cells ej rj) b hk (congrArg Prod.snd hu) hi2 hb')⟩)
    (fun x hx h => by cases h)
    (fun x b2 hx hb2 => by
      simp at hx hb2; subst hx; subst hb2
      refine ⟨n1', n2', .inl ⟨_, by rw [hu], hb'⟩, fun E' L h1 h2 h3 => ⟨c', by rw [h1]; exact hc', by simpa using hlc', fun k x hx => ?_⟩⟩
      rw [List.getElem?_set] at hx
      split at hx
      · rename_i hik
        subst hik
        split at hx <;> try (cases hx; done)
        simp at hx; subst hx
        refine ⟨?_, (hr' i _ hi).2⟩
        refine .d true _ _ (key.mono (fun b hb => ?_) (fun b hb => ?_))
        · show E'.IA true b; unfold AEnv.IA; rw [h2]; exact hb
        · rw [h1]
      · obtain ⟨v1, v2⟩ := hr' k x hx
        exact ⟨v1.mono L, v2⟩)
  refine ⟨g1, ⟨g2.1, fun kd hk => ?_⟩, _, _, r1, fun t => ((henv t).mono q2).mono r2⟩
  have h1 : kd ≠ jd := by
    rintro rfl
    have := g2.2 kd hk
    rw [hj2] at this; cases this
  by_cases h2 : kd = id
  · subst h2; simp [upd, h1]
  · simp only [upd, h1, h2, if_false]; exact g2.2 kd hk
end

section
variable {C : Ctx} {N : Nat} {hp : HP} {l : List (Nat × PV)} {m : List (Nat × (Nat × Option AObj))} {Q : Exit → ASt → Prop} {c : Code}
theorem Gh.frzC {d j i v vj len : Nat} {e ej : TypeId} {row rj rj' : List PV} {R : List PD} (hX : ∀ id, N ≤ id → (C.E0.hp id).2 = none) (ho : hpL N hp m (N + d) = (v, some (.cells e row))) (hd : toDs row = some R) (hj : hpL N hp m (N + j) = (vj, some (.cells ej rj))) (hne : Nat.beq j d = false) (hi : rj[i]? = some (.own (N + d) v 0 len)) (hl : len * szOf C.E0.P e = R.length) (hr : rj.set i (.d true (.lst len R)) = rj') :
    Gh C ⟨envL l, hpL N hp m⟩ ⟨envL l, hpL N hp ((j, (vj, some (.cells ej rj'))) :: (d, (v + 1, none)) :: m)⟩ := by
  subst hr
  have hne' : N + j ≠ N + d := by intro h; have : j = d := by omega
                                  subst this; simp at hne
  exact Gh.freeze_cell (C := C) (s := ⟨envL l, hpL N hp m⟩) (N + d) (N + j) i ho (hX _ (by omega)) hd hj hne' hi hl
theorem awp_frzC {d j i v vj len : Nat} {e ej : TypeId} {row rj rj' : List PV} {R : List PD} (hX : ∀ id, N ≤ id → (C.E0.hp id).2 = none) (ho : hpL N hp m (N + d) = (v, some (.cells e row))) (hd : toDs row = some R) (hj : hpL N hp m (N + j) = (vj, some (.cells ej rj))) (hne : Nat.beq j d = false) (hi : rj[i]? = some (.own (N + d) v 0 len)) (hl : len * szOf C.E0.P e = R.length) (hr : rj.set i (.d true (.lst len R)) = rj')
    (hk : awp C c Q ⟨envL l, hpL N hp ((j, (vj, some (.cells ej rj'))) :: (d, (v + 1, none)) :: m)⟩) : awp C c Q ⟨envL l, hpL N hp m⟩ := awp_gh (Gh.frzC hX ho hd hj hne hi hl hr) hk

/-- A call in a drawn region that looks at no object. -/
theorem goA_callp {ops : Array Oper} {gs : List (Option Tmp)} {acc : List (List Nat × List Nat)} {K : List (List Nat × List Nat) → ASt → Prop} {ty : TypeId} {pos : String} {aft : Array Edge} {rest : List Oper} {h : HP}
    {d : Nat} {fv : Operand} {as : Array Operand} {ats : Array TypeId} {f : FuncId} {first caps args args' : List PV} {r : PV}
    (hf : calleeP ((⟨envL l, h⟩ : ASt).ev fv) = some (f, first, caps)) (hargs : first ++ evs ⟨envL l, h⟩ as ++ caps = args) (hw : WkL args args') (he : enterOK C.E0.P f = true) (hd : dstOK C.n ⟨some d, .call ⟨.value fv, as, ats⟩, ty, pos, aft, none⟩ = true)
    (hA : ∀ hp, ACalls C.E0.P f C.T args' hp fun r' hp' => r' = r ∧ hp' = hp) (hk : goA C ops gs rest ⟨envL ((d, r) :: l), h⟩ (([], []) :: acc) K) : goA C ops gs (⟨some d, .call ⟨.value fv, as, ats⟩, ty, pos, aft, none⟩ :: rest) ⟨envL l, h⟩ acc K := by
  refine ⟨hd, ?_⟩
  simp only
  subst hargs
  refine itemK_call rfl hf he (r := r) [] (fun hp _ => ACalls.weak hw (hA hp)) hd ?_
  simp only [ASt.app, ASt.put, envL_upd]; exact hk
end
end Go.Abs
namespace Go.Abs
theorem locs_R {N : Nat} (R : List PD) : locsOK N (R.map (PV.d true)) := locsOK_d N _ fun x hx => by
  simp only [List.mem_map] at hx
  obtain ⟨y, _, rfl⟩ := hx
  exact ⟨true, y, rfl⟩
end Go.Abs
namespace Go.Abs
section
variable {C : Ctx} {ops : Array Oper} {gs : List (Option Tmp)} {acc : List (List Nat × List Nat)} {K : List (List Nat × List Nat) → ASt → Prop} {ty : TypeId} {pos : String} {aft : Array Edge} {rest : List Oper} {op : Op}
theorem goA_c0 {l : List (Nat × PV)} {N : Nat} {hp : HP} {m : List (Nat × (Nat × Option AObj))} {x : PV} {id v : Nat} {o : Option AObj} {rd : List Nat} {g : Option (Nat × Bool)} (hgo : GOK gs ⟨envL l, hpL N hp m⟩ g) (h : St C ⟨envL l, hpL N hp m⟩ op none x (some (id, v, o))) (hid : id < N) (hd : dstOK C.n ⟨none, op, ty, pos, aft, none⟩ = true)
    (hr : rdOf C.nm ⟨envL l, hpL N hp m⟩ ⟨none, op, ty, pos, aft, none⟩ = rd)
    (hk : goA C ops gs rest ⟨envL l, hpL N (upd hp id (v, o)) m⟩ (([id], rd ++ [id]) :: acc) K) : goA C ops gs (⟨none, op, ty, pos, aft, g⟩ :: rest) ⟨envL l, hpL N hp m⟩ acc K := by
  refine goA_st hgo h hd ?_
  rw [hr]
  simp only [ASt.app, ASt.put, hpL_updlow _ hid]; exact hk
end
end Go.Abs
namespace Go.Abs
theorem ResL.nil {P : Program} {s : ASt} : ResL P s [] [] := trivial
theorem ResL.cons {P : Program} {s : ASt} {r : ResultVar} {rs : List ResultVar} {d : PD} {ds : List PD} (h : (resP P s r).1 ∧ toD (resP P s r).2.x = some d) (k : ResL P s rs ds) : ResL P s (r :: rs) (d :: ds) := ⟨h, k⟩
theorem low_at {N id1 : Nat} {h hp2 : HP} (h1 : h id1 = hp2 id1) (h2 : ∀ id, id < N → id ≠ id1 → h id = hp2 id) : ∀ id, id < N → h id = hp2 id := fun id hid => by
  by_cases e : id = id1
  · rw [e]; exact h1
  · exact h2 id hid e
theorem loc_dk {N : Nat} {k : Bool} {x : PD} : locOK N (dk k x) := by cases x <;> exact trivial
end Go.Abs
namespace Go.Abs
theorem cells_sl {k : Bool} {y : PD} (h : isSlD y = true) : cellsOf (.d k y) = some [.d k y] := by cases y <;> simp [isSlD] at h <;> rfl
theorem cells_slk {k : Bool} {y : PD} (h : isSlD y = true) : cellsOf (dk k y) = some [dk k y] := by cases y <;> simp [isSlD] at h <;> rfl
def FillR (hp : HP) (place : Nat → Option (Nat × Nat)) (parts : List (Nat × PV)) (z out : List PV) : Prop := (fillP hp place parts z).1 ∧ (fillP hp place parts z).2 = out
theorem FillR.nil {hp : HP} {place : Nat → Option (Nat × Nat)} {z : List PV} : FillR hp place [] z z := ⟨trivial, rfl⟩
theorem FillR.cons {hp : HP} {place : Nat → Option (Nat × Nat)} {i off sz : Nat} {x : PV} {parts : List (Nat × PV)} {cs cells cells' out : List PV} (h1 : place i = some (off, sz)) (h2 : cellsOf x = some cs) (h3 : cs.length = sz) (h4 : off + sz ≤ cells.length) (h5 : fitsP hp cs) (h6 : setAt cells off cs = cells') (k : FillR hp place parts cells' out) : FillR hp place ((i, x) :: parts) cells out := by
  subst h6
  unfold FillR
  simp only [fillP, h1, h2]
  exact ⟨⟨⟨h3, h4, h5⟩, k.1⟩, k.2⟩
theorem st_buildR {C : Ctx} {s : ASt} {d : Nat} {t : TypeId} {ps : Array (Nat × Operand)} {pl : List (Nat × Nat)} {z cells : List PV} {parts : List (Nat × PV)} (hz : zeroT C.E0.P t = some z) (hs : structT C.E0.P t = some pl) (hp : (ps.toList.map fun p => (p.1, s.ev p.2)) = parts) (hf : FillR s.hp (pl[·]?) parts z cells) :
    St C s (.build t ps) (some d) (.agg cells) none := st_build hz hs hp hf.1 hf.2
theorem st_bsliceR {C : Ctx} {s : ASt} {d : Nat} {t e : TypeId} {n sz : Nat} {ps : Array (Nat × Operand)} {z row : List PV} {parts : List (Nat × PV)} (he : elemT C.E0.P t = some e) (hz : zeroT C.E0.P e = some z) (hs : szOf C.E0.P e = sz) (h0 : 0 < sz) (hzl : z.length = sz) (hn : n * sz ≤ 16777216) (hp : (ps.toList.map fun p => (p.1, s.ev p.2)) = parts)
    (hf : FillR s.hp (fun i => some (i * sz, sz)) parts (rowZ z n) row) : StN C s (.buildSlice t n ps) d (fun v => .own (C.nm d) v 0 n) (C.nm d) (.cells e row) := st_bslice he hz hs h0 hzl hn hp hf.1 hf.2
end Go.Abs
namespace Go.Abs
theorem fits_slk {hp : HP} {k : Bool} {y : PD} (h : isSlD y = true) : fitP hp (dk k y) := by cases y <;> simp [isSlD] at h <;> rfl
theorem idsP_dk {k : Bool} {y : PD} : idsP (dk k y) = [] := by cases y <;> rfl
theorem rd_ia_dk {nm : Nat → Nat} {s : ASt} {d : Option Nat} {t : TypeId} {x i : Operand} {ty : TypeId} {pos : String} {aft : Array Edge} {g : Option (Nat × Bool)} {k k2 : Bool} {y z : PD} (hx : s.ev x = dk k y) (hi : s.ev i = .d k2 z) : rdOf nm s ⟨d, .indexAddr t x i, ty, pos, aft, g⟩ = [] := by
  simp [rdOf, looksB, makesB, Op.operands, hx, hi, idsP_dk, idsP]
theorem rd_len_dk {nm : Nat → Nat} {s : ASt} {d : Nat} {t : TypeId} {x : Operand} {ty : TypeId} {pos : String} {aft : Array Edge} {g : Option (Nat × Bool)} {k : Bool} {y : PD} (hx : s.ev x = dk k y) : rdOf nm s ⟨some d, .call ⟨.builtin .len, #[x], #[t]⟩, ty, pos, aft, g⟩ = [nm d] := by
  simp [rdOf, looksB, makesB, Op.operands, Call.operands, hx, idsP_dk, idsP]
end Go.Abs
namespace Go.Abs
/-- A row of data with one own slice in it. -/
theorem hole_at {R : List PD} {off : Nat} {c : PV} (h : off < R.length) : (setAt (R.map (PV.d true)) off [c])[off]? = some c := by
  have : off < (R.map (PV.d true)).length := by simpa using h
  unfold setAt
  rw [List.append_assoc, List.getElem?_append_right (by simp; omega)]
  simp [Nat.min_eq_left (Nat.le_of_lt this), Nat.min_eq_left (Nat.le_of_lt h)]
theorem setAt_one {l : List PV} {off : Nat} {c : PV} (h : off < l.length) : setAt l off [c] = l.set off c := by
  unfold setAt
  rw [List.set_eq_take_append_cons_drop, if_pos h]; simp
theorem hole_set {R : List PD} {off : Nat} {c c' : PV} (h : off < R.length) : setAt (setAt (R.map (PV.d true)) off [c]) off [c'] = setAt (R.map (PV.d true)) off [c'] := by
  have h1 : off < (R.map (PV.d true)).length := by simpa using h
  rw [setAt_one h1, setAt_one (by simpa using h1), setAt_one h1, List.set_set]
theorem hole_data {R : List PD} {off : Nat} {c : PV} {y : PD} (h : off < R.length) : setAt (setAt (R.map (PV.d true)) off [c]) off [.d true y] = (setD R off [y]).map (PV.d true) := by
  rw [hole_set h]; exact row_setD (ds := [y])
theorem hole_len {R : List PD} {off : Nat} {c : PV} (h : off < R.length) : (setAt (R.map (PV.d true)) off [c]).length = R.length := by
  have h1 : off < (R.map (PV.d true)).length := by simpa using h
  rw [setAt_one h1]; simp
theorem hole_nil {R : List PD} {off : Nat} (h : off < R.length) (hn : isNilD (R.getD off .nil) = true) : (R.map (PV.d true))[off]? = some (PV.d true .nil) := by
  refine row_at h ?_
  generalize R.getD off .nil = y at hn ⊢
  cases y <;> simp [isNilD] at hn
  rfl
theorem hole_virt {R : List PD} {off : Nat} {c : PV} (h : off < R.length) : (R.map (PV.d true)).set off c = setAt (R.map (PV.d true)) off [c] := (setAt_one (by simpa using h)).symm

section
variable {C : Ctx} {N : Nat} {hp : HP} {l : List (Nat × PV)} {m : List (Nat × (Nat × Option AObj))}
/-- A call in a drawn region that looks at these objects. -/
theorem goA_callr {ops : Array Oper} {gs : List (Option Tmp)} {acc : List (List Nat × List Nat)} {K : List (List Nat × List Nat) → ASt → Prop} {ty : TypeId} {pos : String} {aft : Array Edge} {rest : List Oper} {h : HP}
    {d : Nat} {fv : Operand} {as : Array Operand} {ats : Array TypeId} {f : FuncId} {first caps args args' : List PV} {r : PV} (rd : List Nat)
    (hf : calleeP ((⟨envL l, h⟩ : ASt).ev fv) = some (f, first, caps)) (hargs : first ++ evs ⟨envL l, h⟩ as ++ caps = args) (hw : WkL args args') (he : enterOK C.E0.P f = true) (hd : dstOK C.n ⟨some d, .call ⟨.value fv, as, ats⟩, ty, pos, aft, none⟩ = true)
    (hA : ∀ hp, Agree rd hp h → ACalls C.E0.P f C.T args' hp fun r' hp' => r' = r ∧ hp' = hp) (hk : goA C ops gs rest ⟨envL ((d, r) :: l), h⟩ (([], rd) :: acc) K) : goA C ops gs (⟨some d, .call ⟨.value fv, as, ats⟩, ty, pos, aft, none⟩ :: rest) ⟨envL l, h⟩ acc K := by
  refine ⟨hd, ?_⟩
  simp only
  subst hargs
  refine itemK_call rfl hf he (r := r) rd (fun hp ha => ACalls.weak hw (hA hp ha)) hd ?_
  simp only [ASt.app, ASt.put, envL_upd]; exact hk
end
end Go.Abs
namespace Go.Abs
theorem mul_sz {P : Program} {e : TypeId} {sz len L : Nat} (h : szOf P e = sz) (g : len * sz = L) : len * szOf P e = L := by rw [h]; exact g
end Go.Abs
namespace Go.Abs
theorem lowOK_also {N : Nat} {hp h : HP} {id v : Nat} {e : TypeId} {row : List PV} (h0 : lowOK N hp h) (hr : locsOK N row) : lowOK N hp (upd h id (v, some (.cells e row))) := by
  intro j hj
  by_cases hh : j = id
  · subst hh
    refine .inr fun e' r' hr' => ?_
    simp [upd] at hr'
    rw [← hr'.2]; exact hr
  · simp only [upd, hh, if_false]; exact h0 j hj
section
variable {C : Ctx} {N : Nat} {l : List (Nat × PV)} {gs : List (Option Tmp)} {rest : List Oper} {K : ASt → Prop} {ty : TypeId} {pos : String} {aft : Array Edge}
  {d : Nat} {fv : Operand} {as : Array Operand} {ats : Array TypeId} {f : FuncId} {first caps args args' : List PV}
/-- A call, with what is told of the objects behind it. -/
theorem goL_cg {U : Type} {r : U → PV} {h : HP} {h' : U → HP} (hf : calleeP ((⟨envL l, h⟩ : ASt).ev fv) = some (f, first, caps)) (hargs : first ++ evs ⟨envL l, h⟩ as ++ caps = args) (hw : WkL args args') (he : enterOK C.E0.P f = true) (hd : dstOK C.n ⟨some d, .call ⟨.value fv, as, ats⟩, ty, pos, aft, none⟩ = true)
    (hA : ACalls C.E0.P f C.T args' h fun r' hp' => ∃ u, r' = r u ∧ hp' = h' u) (hk : ∀ u, goL C gs rest ⟨envL ((d, r u) :: l), h' u⟩ K) : goL C gs (⟨some d, .call ⟨.value fv, as, ats⟩, ty, pos, aft, none⟩ :: rest) ⟨envL l, h⟩ K := by
  rw [goL_call]
  refine ⟨hd, callL hf hargs he hd (ACalls.weak hw hA) ?_⟩
  rintro r' hp' ⟨u, rfl, rfl⟩
  simp only [ASt.put, envL_upd]; exact hk u
theorem goL_hp {ops : List Oper} {h h' : HP} (e : h = h') (hk : goL C gs ops ⟨envL l, h'⟩ K) : goL C gs ops ⟨envL l, h⟩ K := by rw [e]; exact hk
/-- Ahead of a call: a nil in a row is an own slice. -/
theorem goL_virtC {hp : HP} {m : List (Nat × (Nat × Option AObj))} {dst : Option Tmp} {j dd i vj : Nat} {k : Bool} (e : TypeId) {et : TypeId} {row : List PV} (row' : Nat → List PV) (hdn : N + dd < C.T) (hj : hpL N hp m (N + j) = (vj, some (.cells et row))) (hi : row[i]? = some (.d k .nil)) (hne : Nat.beq j dd = false) (hr : ∀ v, row.set i (.own (N + dd) v 0 0) = row' v)
    (hk : ∀ v, goL C gs (⟨dst, .call ⟨.value fv, as, ats⟩, ty, pos, aft, none⟩ :: rest) ⟨envL l, hpL N hp ((j, (vj, some (.cells et (row' v)))) :: (dd, (v, some (.cells e (([] : List PD).map (PV.d true))))) :: m)⟩ K) :
    goL C gs (⟨dst, .call ⟨.value fv, as, ats⟩, ty, pos, aft, none⟩ :: rest) ⟨envL l, hpL N hp m⟩ K :=
  goL_ghc (Gh.virtC e hdn hj hi hne (hr _)) (hk _)
end
end Go.Abs
namespace Go.Abs
section
variable {C : Ctx} {ops : Array Oper} {gs : List (Option Tmp)} {acc : List (List Nat × List Nat)} {K : List (List Nat × List Nat) → ASt → Prop} {ty : TypeId} {pos : String} {aft : Array Edge} {rest : List Oper} {op : Op}
theorem goA_nc {l : List (Nat × PV)} {N : Nat} {hp : HP} {m : List (Nat × (Nat × Option AObj))} {d id : Nat} {x : Nat → PV} {o : AObj} {rd : List Nat} {g : Option (Nat × Bool)} (hgo : GOK gs ⟨envL l, hpL N hp m⟩ g) (h : StN C ⟨envL l, hpL N hp m⟩ op d x id o) (hid : id < N) (hd : dstOK C.n ⟨some d, op, ty, pos, aft, none⟩ = true)
    (hr : rdOf C.nm ⟨envL l, hpL N hp m⟩ ⟨some d, op, ty, pos, aft, none⟩ = rd)
    (hk : ∀ v, goA C ops gs rest ⟨envL ((d, x v) :: l), hpL N (upd hp id (v, some o)) m⟩ (([id], rd ++ [id]) :: acc) K) : goA C ops gs (⟨some d, op, ty, pos, aft, g⟩ :: rest) ⟨envL l, hpL N hp m⟩ acc K := by
  obtain ⟨v, h⟩ := h
  refine goA_st hgo h hd ?_
  rw [hr]
  simp only [ASt.app, ASt.put, envL_upd, hpL_updlow _ hid]; exact hk v
end
end Go.Abs
