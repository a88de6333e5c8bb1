/- One operation looks only at its operands and at the objects that they name. No condition. -/
import Derived.Test.YtfhpoffgnpgagaaAbsN
set_option linter.unusedSimpArgs false
set_option linter.unusedVariables false
namespace Go.Abs

mutual
def idsP : PV → List Nat
  | .own id _ _ _ => [id]
  | .ptr id _ _ => [id]
  | .agg cs => idsL cs
  | _ => []
def idsL : List PV → List Nat
  | [] => []
  | x :: l => idsP x ++ idsL l
end

theorem idsL_mem {id : Nat} : ∀ (l : List PV) (x : PV), x ∈ l → id ∈ idsP x → id ∈ idsL l
  | [], _, h, _ => by cases h
  | y :: l, x, h, hi => by
    simp only [idsL, List.mem_append]
    rcases List.mem_cons.1 h with rfl | h
    · exact .inl hi
    · exact .inr (idsL_mem l x h hi)

theorem ids_cells {x : PV} {cs : List PV} (h : cellsOf x = some cs) : ∀ id ∈ idsL cs, id ∈ idsP x := by
  intro id hid
  unfold cellsOf at h
  split at h
  · simp at h; subst h; simpa [idsP] using hid
  · simp at h; subst h
    exfalso
    rename_i cs
    have : ∀ l : List PD, idsL (l.map (dk ‹Bool›)) = [] := by
      intro l; induction l with
      | nil => rfl
      | cons a l ih => cases a <;> simp [idsL, idsP, dk, ih]
    rw [this] at hid; cases hid
  · cases h
  · cases h
  · simp at h; subst h; simpa [idsL] using hid

def Agree (ids : List Nat) (hp' hp : HP) : Prop := ∀ id ∈ ids, hp' id = hp id

section
variable {P : Program} {hp hp' : HP}

theorem liveRow_congr {id ver : Nat} (h : hp' id = hp id) : liveRow hp' id ver = liveRow hp id ver := by unfold liveRow; rw [h]
theorem liveObj_congr {id ver : Nat} (h : hp' id = hp id) : liveObj hp' id ver = liveObj hp id ver := by unfold liveObj; rw [h]

theorem fitP_congr {x : PV} (h : Agree (idsP x) hp' hp) : fitP hp' x = fitP hp x := by
  cases x <;> simp only [fitP]
  · exact liveRow_congr (h _ (by simp [idsP]))
  · exact liveObj_congr (h _ (by simp [idsP]))

theorem fitsP_congr : ∀ {l : List PV}, Agree (idsL l) hp' hp → fitsP hp' l = fitsP hp l
  | [], _ => rfl
  | x :: l, h => by
    simp only [fitsP]
    rw [fitP_congr (fun id hid => h id (by simp [idsL, hid])), fitsP_congr (fun id hid => h id (by simp [idsL, hid]))]

theorem fAlloc_congr {e : TypeId} {id : Nat} (h : hp' id = hp id) : fAlloc P hp' e id = fAlloc P hp e id := by unfold fAlloc; rw [h]

theorem fBox_congr {e : TypeId} {x : PV} {id : Nat} (h : hp' id = hp id) (hx : Agree (idsP x) hp' hp) : fBox hp' e x id = fBox hp e x id := by
  unfold fBox
  cases hc : cellsOf x with
  | none => rfl
  | some cs => simp only [h, fitsP_congr (fun id hid => hx id (ids_cells hc id hid))]

theorem fLoad_congr {t : TypeId} {x : PV} (hx : Agree (idsP x) hp' hp) : fLoad P hp' t x = fLoad P hp t x := by
  unfold fLoad
  rcases tyT P t with _ | ⟨ag, n⟩
  · cases x <;> rfl
  · cases x with
    | ptr id ver off => simp only [hx id (by simp [idsP])]
    | d k y => cases y <;> rfl
    | _ => rfl

theorem fStore_congr {t : TypeId} {p x : PV} (hp1 : Agree (idsP p) hp' hp) (hx : Agree (idsP x) hp' hp) : fStore P hp' t p x = fStore P hp t p x := by
  unfold fStore
  cases hc : cellsOf x with
  | none => rcases tyT P t with _ | ⟨ag, n⟩ <;> cases p <;> rfl
  | some cs =>
    rcases tyT P t with _ | ⟨ag, n⟩
    · cases p <;> rfl
    · cases p with
      | ptr id ver off => simp only [hp1 id (by simp [idsP]), fitsP_congr (fun id hid => hx id (ids_cells hc id hid))]
      | d k y => cases y <;> rfl
      | _ => rfl

theorem fNil_congr {x : PV} (hx : Agree (idsP x) hp' hp) : fNil hp' x = fNil hp x := by
  unfold fNil
  cases x with
  | ptr id ver off => simp only [liveObj_congr (hx id (by simp [idsP]))]
  | d k y => cases y <;> rfl
  | fn f a b => cases a <;> rfl
  | _ => rfl

theorem fFieldAddr_congr {t : TypeId} {x : PV} {f : Nat} (hx : Agree (idsP x) hp' hp) : fFieldAddr P hp' t x f = fFieldAddr P hp t x f := by
  unfold fFieldAddr
  rcases fieldT P t f with _ | ⟨off, n, e⟩
  · cases x <;> rfl
  · cases x with
    | ptr id ver off => simp only [liveObj_congr (hx id (by simp [idsP]))]
    | d k y => cases y <;> rfl
    | _ => rfl

theorem fIndexAddr_congr {t : TypeId} {x i : PV} (hx : Agree (idsP x) hp' hp) : fIndexAddr P hp' t x i = fIndexAddr P hp t x i := by
  unfold fIndexAddr
  rcases elemT P t with _ | e
  · cases x <;> rfl
  · cases x with
    | own id ver off len =>
      cases i with
      | d k y => cases y <;> first | rfl | simp only [liveRow_congr (hx id (by simp [idsP]))]
      | _ => rfl
    | d k y =>
      cases y <;> first | rfl | skip
      cases i with
      | d k y => cases y <;> rfl
      | _ => rfl
    | _ => rfl

theorem fLen_congr {t : TypeId} {x : PV} (hx : Agree (idsP x) hp' hp) : fLen P hp' t x = fLen P hp t x := by
  unfold fLen
  cases x with
  | own id ver off len => simp only [liveRow_congr (hx id (by simp [idsP]))]
  | d k y => cases y <;> rfl
  | _ => rfl

theorem fSlice_congr {t : TypeId} {x : PV} {lo hi : Option PV} (hx : Agree (idsP x) hp' hp) : fSlice P hp' t x lo hi = fSlice P hp t x lo hi := by
  unfold fSlice
  cases x with
  | own id ver off len => simp only [liveRow_congr (hx id (by simp [idsP]))]
  | d k y => cases y <;> rfl
  | _ => rfl

theorem fMake_congr {t : TypeId} {x y : PV} {id : Nat} (h : hp' id = hp id) : fMake P hp' t x y id = fMake P hp t x y id := by unfold fMake; rw [h]

theorem fillP_congr {place : Nat → Option (Nat × Nat)} : ∀ (parts : List (Nat × PV)) (cells : List PV), (∀ p ∈ parts, Agree (idsP p.2) hp' hp) → fillP hp' place parts cells = fillP hp place parts cells
  | [], _, _ => rfl
  | (i, x) :: rest, cells, h => by
    simp only [fillP]
    cases hc : cellsOf x with
    | none => cases place i <;> rfl
    | some cs =>
      cases place i with
      | none => rfl
      | some p =>
        obtain ⟨off, sz⟩ := p
        simp only [fitsP_congr (fun id hid => h (i, x) (by simp) id (ids_cells hc id hid)), fillP_congr rest _ (fun p hp => h p (by simp [hp]))]

theorem fBuild_congr {t : TypeId} {parts : List (Nat × PV)} (h : ∀ p ∈ parts, Agree (idsP p.2) hp' hp) : fBuild P hp' t parts = fBuild P hp t parts := by
  unfold fBuild; simp only [fillP_congr parts _ h]

theorem fBuildSlice_congr {t : TypeId} {n : Nat} {parts : List (Nat × PV)} {id : Nat} (h1 : hp' id = hp id) (h : ∀ p ∈ parts, Agree (idsP p.2) hp' hp) : fBuildSlice P hp' t n parts id = fBuildSlice P hp t n parts id := by
  unfold fBuildSlice; simp only [fillP_congr parts _ h, h1]

theorem srcOf_congr {e : TypeId} {x : PV} (hx : Agree (idsP x) hp' hp) : srcOf P hp' e x = srcOf P hp e x := by
  unfold srcOf
  cases x with
  | own id ver off len => simp only [hx id (by simp [idsP])]
  | d k y => cases y <;> rfl
  | _ => rfl

theorem fBytes_congr {t u : TypeId} {x : PV} (hx : Agree (idsP x) hp' hp) : fBytes P hp' t u x = fBytes P hp t u x := by
  unfold fBytes; simp only [srcOf_congr hx]

theorem fConv_congr {t u : TypeId} {x : PV} (hx : Agree (idsP x) hp' hp) : fConv P hp' t u x = fConv P hp t u x := by
  unfold fConv
  cases x with
  | own id ver off len => exact fBytes_congr hx
  | d k y => cases y <;> first | rfl | exact fBytes_congr hx
  | _ => rfl

theorem fAppend_congr {t : TypeId} {x y : PV} {id : Nat} (h : hp' id = hp id) (hx : Agree (idsP x) hp' hp) (hy : Agree (idsP y) hp' hp) : fAppend P hp' t x y id = fAppend P hp t x y id := by
  unfold fAppend
  simp only [srcOf_congr hy]
  cases elemT P t with
  | none => rfl
  | some e =>
    simp only
    generalize zeroT P e = oz
    generalize srcOf P hp e y = os
    rcases oz with _ | z <;> rcases os with _ | ⟨c, m, news⟩ <;> try rfl
    cases x with
    | own j ver off len => simp only [hx j (by simp [idsP])]
    | d k z => cases z <;> first | rfl | simp only [h]
    | _ => rfl

end

/-- Does an operation make an object? -/
def makesB : Op → Bool
  | .alloc _ => true
  | .box _ _ => true
  | .buildSlice _ _ _ => true
  | .makeSlice _ _ _ => true
  | .call _ => true
  | _ => false

/-- Does an operation look at objects? -/
def looksB : Op → Bool
  | .move _ => false
  | .assign _ => false
  | .pick _ _ _ => false
  | .binOp _ _ _ _ _ => false
  | .unOp _ _ _ => false
  | .extract _ _ => false
  | .field _ _ _ => false
  | .index _ _ _ => false
  | .makeFunc _ _ _ => false
  | _ => true

/-- The objects at which an operation looks. -/
def rdOf (nm : Nat → Nat) (s : ASt) (o : Oper) : List Nat :=
  (if looksB o.op then o.op.operands.toList.flatMap fun x => idsP (s.ev x) else []) ++ (if makesB o.op then [nm (o.dst.getD 0)] else [])

section
variable {P : Program} {nm : Nat → Nat} {s s' : ASt} {o : Oper} {ops : Array Oper}

theorem ev_congr (h : ∀ t ∈ o.looksAt ops, s'.env t = s.env t) {x : Operand} (hx : x ∈ o.op.operands) : s'.ev x = s.ev x := by
  cases x with
  | tmp t =>
    refine h t ?_
    unfold Oper.looksAt
    rw [List.mem_append]
    refine .inl ?_
    rw [List.mem_filterMap]
    exact ⟨.tmp t, by simpa using hx, rfl⟩
  | _ => rfl

theorem rd_agree (h : Agree (rdOf nm s o) s'.hp s.hp) (hl : looksB o.op = true) {x : Operand} (hx : x ∈ o.op.operands) : Agree (idsP (s.ev x)) s'.hp s.hp := by
  intro id hid
  refine h id ?_
  unfold rdOf
  rw [if_pos hl, List.mem_append, List.mem_flatMap]
  exact .inl ⟨x, by simpa using hx, hid⟩

theorem rd_makes (h : Agree (rdOf nm s o) s'.hp s.hp) (hm : makesB o.op = true) : s'.hp (nm (o.dst.getD 0)) = s.hp (nm (o.dst.getD 0)) := by
  refine h _ ?_
  unfold rdOf
  rw [List.mem_append]
  exact .inr (by simp [hm])

theorem wantP_congr (h : ∀ t ∈ o.looksAt ops, s'.env t = s.env t) : wantP ops s' o = wantP ops s o := by
  unfold wantP
  cases hg : o.guard with
  | none => rfl
  | some g =>
    obtain ⟨j, want⟩ := g
    simp only
    cases hj : (ops[j]?).bind (·.dst) with
    | none => rfl
    | some t => simp only [h t (by unfold Oper.looksAt; simp only [hg, hj]; simp)]

theorem fstep_congr (h : ∀ t ∈ o.looksAt ops, s'.env t = s.env t) (hr : Agree (rdOf nm s o) s'.hp s.hp) : fstep P nm s' o = fstep P nm s o := by
  have hev : ∀ x ∈ o.op.operands, s'.ev x = s.ev x := fun x hx => ev_congr h hx
  have hag : looksB o.op = true → ∀ x ∈ o.op.operands, Agree (idsP (s.ev x)) s'.hp s.hp := fun hl x hx => rd_agree hr hl hx
  have hmk : makesB o.op = true → s'.hp (nm (o.dst.getD 0)) = s.hp (nm (o.dst.getD 0)) := rd_makes hr
  unfold fstep
  cases ho : o.op <;> rw [ho] at hev hag hmk <;> try rfl
  · rename_i x; exact congrArg val (hev x (by simp [Op.operands]))
  · rename_i x; exact congrArg val (hev x (by simp [Op.operands]))
  · rename_i c a b; simp only [hev c (by simp [Op.operands]), hev a (by simp [Op.operands]), hev b (by simp [Op.operands])]
  · exact fAlloc_congr (hmk rfl)
  · rename_i e x
    simp only [hev x (by simp [Op.operands])]
    exact fBox_congr (hmk rfl) (hag rfl x (by simp [Op.operands]))
  · rename_i t ps
    have e : (ps.toList.map fun p => (p.1, s'.ev p.2)) = ps.toList.map fun p => (p.1, s.ev p.2) := List.map_congr_left fun p hp => by
      rw [hev p.2 (by simp only [Op.operands, List.mem_toArray, List.mem_map]; exact ⟨p, hp, rfl⟩)]
    simp only [e]
    refine fBuild_congr fun q hq => ?_
    rw [List.mem_map] at hq
    obtain ⟨p, hp, rfl⟩ := hq
    exact hag rfl p.2 (by simp only [Op.operands, List.mem_toArray, List.mem_map]; exact ⟨p, hp, rfl⟩)
  · rename_i t n ps
    have e : (ps.toList.map fun p => (p.1, s'.ev p.2)) = ps.toList.map fun p => (p.1, s.ev p.2) := List.map_congr_left fun p hp => by
      rw [hev p.2 (by simp only [Op.operands, List.mem_toArray, List.mem_map]; exact ⟨p, hp, rfl⟩)]
    simp only [e]
    refine fBuildSlice_congr (hmk rfl) fun q hq => ?_
    rw [List.mem_map] at hq
    obtain ⟨p, hp, rfl⟩ := hq
    exact hag rfl p.2 (by simp only [Op.operands, List.mem_toArray, List.mem_map]; exact ⟨p, hp, rfl⟩)
  case load t x => simp only [hev x (by simp [Op.operands])]; exact fLoad_congr (hag rfl x (by simp [Op.operands]))
  case store t p x => simp only [hev p (by simp [Op.operands]), hev x (by simp [Op.operands])]; exact fStore_congr (hag rfl p (by simp [Op.operands])) (hag rfl x (by simp [Op.operands]))
  case nilCheck x => simp only [hev x (by simp [Op.operands])]; exact fNil_congr (hag rfl x (by simp [Op.operands]))
  case binOp op t x y u => simp only [hev x (by simp [Op.operands]), hev y (by simp [Op.operands])]
  case unOp op t x => simp only [hev x (by simp [Op.operands])]
  case convert t u x => simp only [hev x (by simp [Op.operands])]; exact fConv_congr (hag rfl x (by simp [Op.operands]))
  case makeSlice t x y => simp only [hev x (by simp [Op.operands]), hev y (by simp [Op.operands])]; exact fMake_congr (hmk rfl)
  case fieldAddr t x f => simp only [hev x (by simp [Op.operands])]; exact fFieldAddr_congr (hag rfl x (by simp [Op.operands]))
  case field t x f => simp only [hev x (by simp [Op.operands])]
  case indexAddr t x i => simp only [hev x (by simp [Op.operands]), hev i (by simp [Op.operands])]; exact fIndexAddr_congr (hag rfl x (by simp [Op.operands]))
  case index t x i => simp only [hev x (by simp [Op.operands]), hev i (by simp [Op.operands])]
  case extract x i => simp only [hev x (by simp [Op.operands])]
  case makeFunc fr first caps =>
    cases fr with
    | func f =>
      have e1 : evs s' first = evs s first := List.map_congr_left fun x hx => hev x (by simp only [Op.operands, Array.mem_append]; left; simpa using hx)
      have e2 : evs s' caps = evs s caps := List.map_congr_left fun x hx => hev x (by simp only [Op.operands, Array.mem_append]; right; simpa using hx)
      simp only [e1, e2]
    | _ => rfl
  case slice t x lo hi m =>
    cases m with
    | some m => rfl
    | none =>
      simp only
      have e0 := hev x (by simp [Op.operands])
      have e1 : lo.map s'.ev = lo.map s.ev := by
        cases lo with
        | none => rfl
        | some y => simp [hev y (by simp [Op.operands])]
      have e2 : hi.map s'.ev = hi.map s.ev := by
        cases hi with
        | none => rfl
        | some y => simp [hev y (by simp [Op.operands])]
      rw [e0, e1, e2]
      exact fSlice_congr (hag rfl x (by simp [Op.operands]))
  case call c =>
    obtain ⟨callee, args, ats⟩ := c
    cases callee with
    | value f => rfl
    | invoke r m => rfl
    | builtin b =>
      simp only
      have hargs : ∀ x ∈ args.toList, s'.ev x = s.ev x ∧ Agree (idsP (s.ev x)) s'.hp s.hp := by
        intro x hx
        have : x ∈ (Op.call ⟨.builtin b, args, ats⟩).operands := by simp [Op.operands, Call.operands]; simpa using hx
        exact ⟨hev x this, hag rfl x this⟩
      generalize args.toList = l at hargs
      unfold fBuiltin
      split
      · rename_i x t _; obtain ⟨h1, h2⟩ := hargs x (by simp); rw [h1]; exact fLen_congr h2
      · rename_i x y t u _
        obtain ⟨h1, h2⟩ := hargs x (by simp)
        obtain ⟨h3, h4⟩ := hargs y (by simp)
        rw [h1, h3, fAppend_congr (hmk rfl) h2 h4]
      · rename_i x y t u _
        rw [(hargs x (by simp)).1, (hargs y (by simp)).1]
      · rename_i x y t u _
        rw [(hargs x (by simp)).1, (hargs y (by simp)).1]
      · rfl

end
end Go.Abs
