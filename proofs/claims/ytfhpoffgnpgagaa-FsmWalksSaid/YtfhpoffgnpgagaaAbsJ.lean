/- append. No condition. -/
import Derived.Test.YtfhpoffgnpgagaaAbsI
import Derived.Laws.AppendOwnNone
set_option linter.unusedSimpArgs false
set_option linter.unusedVariables false
namespace Go.Abs

theorem heap_drew_alloc_old (w : World) (o : Obj) (b : Nat) (h : b < w.heap.size) : (w.drew.alloc o).heap[b]? = w.heap[b]? := heap_alloc_old w.drew o b h
theorem heap_drew_alloc_new (w : World) (o : Obj) : (w.drew.alloc o).heap[w.heap.size]? = some o := heap_alloc_new w.drew o

section
variable {C : Ctx} {s : ASt} {a : Act} {w : World}

/-- A new block behind a draw. -/
theorem At.alloc_drew {ι : Nat → Option Nat} {I : Nat → Prop} {hp : HP} (k : At C ι I hp w) (id ver : Nat) (hv : (hp id).1 < ver) (e : TypeId) (row : List PV) (c : Array Value)
    (hr : VL ⟨C.E0.P, hp, ι, I, C.E0.A, w.heap⟩ row (c.toList.take row.length)) (hc : row.length ≤ c.size) :
    At C (upd ι id (some w.heap.size)) I (upd hp id (ver, some (.cells e row))) (w.drew.alloc (.cells c e)) ∧
    Le ⟨C.E0.P, hp, ι, I, C.E0.A, w.heap⟩ ⟨C.E0.P, upd hp id (ver, some (.cells e row)), upd ι id (some w.heap.size), I, C.E0.A, (w.drew.alloc (.cells c e)).heap⟩ := by
  have k' : At C ι I hp w.drew := ⟨k.hok, k.le, k.os, k.tape, k.output, k.size, k.keep, k.stay, k.Inew⟩
  exact k'.alloc id ver hv e row c hr hc

/-- The source of an append: its cells as abstract cells; how many elements. -/
def srcOf (P : Program) (hp : HP) (e : TypeId) : PV → Option (Prop × Nat × List PV)
  | .own id ver off len =>
    match hp id with
    | (v, some (.cells _ row)) => some (v = ver ∧ off + len * szOf P e ≤ row.length, len, (row.drop off).take (len * szOf P e))
    | _ => none
  | .d k (.lst n cs) => some (cs.length = n * szOf P e, n, cs.map (dk k))
  | .d _ .nil => some (True, 0, [])
  | _ => none

/-- What the machine has for it. -/
def SrcAt (w : World) (v : Value) (m : Nat) (news : List Value) : Prop :=
  (∃ c, v = .slice none m c ∧ m = 0 ∧ news = []) ∨ ∃ ad c, v = .slice (some ad) m c ∧ ∀ j u, news[j]? = some u → w.cell? (ad.add j) = some u

theorem srcOf_sound {ι : Nat → Option Nat} {I : Nat → Prop} (k : At C ι I s.hp w) {e : TypeId} {x : PV} {v : Value} (h : V ⟨C.E0.P, s.hp, ι, I, C.E0.A, w.heap⟩ x v) {c : Prop} {m : Nat} {cs : List PV}
    (hs : srcOf C.E0.P s.hp e x = some (c, m, cs)) (hc : c) : ∃ news, VL ⟨C.E0.P, s.hp, ι, I, C.E0.A, w.heap⟩ cs news ∧ news.length = m * szOf C.E0.P e ∧ SrcAt w v m news := by
  cases h with
  | own id ver off len v hp =>
    simp only [srcOf] at hs
    split at hs <;> try (cases hs; done)
    rename_i v' e' row hh
    simp only [Option.some.injEq, Prod.mk.injEq] at hs
    obtain ⟨rfl, rfl, rfl⟩ := hs
    obtain ⟨rfl, hl⟩ := hc
    obtain ⟨k1, k2⟩ := hp.2 (by simp [hh]) e' row (by simp [hh])
    cases hi : ι id with
    | none =>
      obtain ⟨rfl, rfl, rfl⟩ := k1 hi
      refine ⟨[], by simpa using VL.nil _, by simp, .inl ⟨0, rfl, rfl, rfl⟩⟩
    | some b =>
      obtain ⟨off', cap, c, rfl, hlc, ho, hh2, _⟩ := k2 b hi
      obtain ⟨c2, hc2, hl2, hrow⟩ := k.hok.row (id := id) (e := e') (row := row) (by simp [hh]) hi
      have : c2 = c := by simp only at hc2 hh2; rw [hh2] at hc2; simpa using hc2.symm
      subst this
      have hl2' : row.length ≤ c2.size := hl2
      by_cases hlen : len = 0
      · subst hlen
        refine ⟨[], by simpa using VL.nil _, by simp, .inr ⟨_, _, rfl, by simp⟩⟩
      · have : off' = off := ho (.inl (by omega))
        subst this
        have hw : w.heap[b]? = some (.cells c2 e' (0, 0)) := hh2
        refine ⟨(c2.toList.drop off').take (len * szOf C.E0.P e), ?_, by simp; omega, .inr ⟨_, _, rfl, cells_at hw _⟩⟩
        have := (hrow.drop off').take (len * szOf C.E0.P e)
        have e2 : ((c2.toList.take row.length).drop off').take (len * szOf C.E0.P e) = (c2.toList.drop off').take (len * szOf C.E0.P e) := by
          rw [List.drop_take, List.take_take]; congr 1; omega
        rw [e2] at this
        exact this
  | d kb y v hv =>
    cases hv <;> simp only [srcOf] at hs <;> try (cases hs; done)
    · simp only [Option.some.injEq, Prod.mk.injEq] at hs
      obtain ⟨rfl, rfl, rfl⟩ := hs
      exact ⟨[], VL.nil _, by simp, .inl ⟨0, rfl, rfl, rfl⟩⟩
    · rename_i ad cap
      simp only [Option.some.injEq, Prod.mk.injEq] at hs
      obtain ⟨rfl, rfl, rfl⟩ := hs
      refine ⟨[], by simpa using VL.nil _, by simp, ?_⟩
      cases ad with
      | none => exact .inl ⟨cap, rfl, rfl, rfl⟩
      | some ad => exact .inr ⟨ad, cap, rfl, by simp⟩
    · rename_i n ds b o cap c e2 fr hI hh hl hcap h7 h8
      simp only [Option.some.injEq, Prod.mk.injEq] at hs
      obtain ⟨rfl, rfl, rfl⟩ := hs
      refine ⟨(c.toList.drop o).take ds.length, VL_dk (VL_data hl h7 h8), by simp; have h : ds.length = n * szOf C.E0.P e := hc; omega, .inr ⟨_, _, rfl, cells_at hh _⟩⟩
  | ptr => cases hs
  | fn => cases hs
  | agg => cases hs
  | dead => cases hs

/-- append: onto a slice of this call's own, or onto nil (id: the object that it becomes then). -/
def fAppend (P : Program) (hp : HP) (t : TypeId) (x y : PV) (id : Nat) : Out :=
  match elemT P t with
  | none => no
  | some e => match zeroT P e, srcOf P hp e y with
    | some z, some (c, m, news) => match x with
      | .own j ver off len => match hp j with
        | (v, some (.cells e' row)) =>
          (c ∧ v = ver ∧ e' = e ∧ off = 0 ∧ len * szOf P e ≤ row.length ∧ 0 < szOf P e ∧ z.length = szOf P e ∧ (len + m) * bytesT P e ≤ 140737488355328 ∧ len + m ≤ 9223372036854775807,
            ⟨.own j (ver + 1) 0 (len + m), some (j, ver + 1, some (.cells e (row.take (len * szOf P e) ++ news)))⟩)
        | _ => no
      | .d _ .nil => (c ∧ 0 < szOf P e ∧ z.length = szOf P e ∧ m * bytesT P e ≤ 140737488355328 ∧ m ≤ 9223372036854775807,
            ⟨.own id ((hp id).1 + 1) 0 m, some (id, (hp id).1 + 1, some (.cells e news))⟩)
      | _ => no
    | _, _ => no

/-- An object that is nil still. -/
theorem At.virtual {ι : Nat → Option Nat} {I : Nat → Prop} {hp : HP} (k : At C ι I hp w) (id ver : Nat) (hv : (hp id).1 < ver) (e : TypeId) :
    At C (upd ι id none) I (upd hp id (ver, some (.cells e []))) w ∧
    Le ⟨C.E0.P, hp, ι, I, C.E0.A, w.heap⟩ ⟨C.E0.P, upd hp id (ver, some (.cells e [])), upd ι id none, I, C.E0.A, w.heap⟩ := by
  refine k.change id ver (some (.cells e [])) none I (by omega) (fun hh => by omega) rfl rfl rfl (Nat.le_refl _) (fun b hb _ => rfl) (fun _ h => h) (fun _ h => .inl h)
    (fun b hb => k.hok.bound b (.inl hb)) (fun jd o b hne ho hi => ⟨(k.hok.atSome jd o b ho hi).1, fun h => by cases h⟩) (fun x hx _ => ⟨e, by simpa using hx.symm⟩) (fun x b hx hb => by cases hb)

theorem own_virtual {P : Program} {hp : HP} {ι : Nat → Option Nat} {I A : Nat → Prop} {h : Array Obj} {id ver : Nat} {e : TypeId} :
    V ⟨P, upd hp id (ver, some (.cells e [])), upd ι id none, I, A, h⟩ (.own id ver 0 0) (.slice none 0 0) := by
  refine .own id ver 0 0 _ ⟨by simp [upd], fun _ e' r' ho' => ⟨fun _ => ⟨rfl, rfl, rfl⟩, fun b' hb' => ?_⟩⟩
  simp [upd] at hb'

theorem append_sound (r : Rel C s a w) {o : Oper} {K : Act → World → Prop} {Q : Exit → Act → World → Prop} (hd : ∀ d, o.dst = some d → d < C.n) {t : TypeId} {x y : Operand}
    (ho : o.op = .call { callee := .builtin .append, args := #[x, y], argTypes := #[t, t] }) (id : Nat) (hid : id < C.T)
    (hc : (fAppend C.E0.P s.hp t (s.ev x) (s.ev y) id).1) (hk : ∀ a' w', Rel C (s.app o.dst (fAppend C.E0.P s.hp t (s.ev x) (s.ev y) id).2) a' w' → K a' w') : o.wp C.E0.P a w K Q := by
  have he : (execOp a.eval o) = (do pure (.value (← Builtin.append_ #[t, t] o.type #[a.eval x, a.eval y]))) := by
    unfold execOp; rw [ho]; simp [resolve, invoke, builtin]
  generalize hex : s.ev x = px at hc hk
  unfold fAppend at hc hk
  cases hel : elemT C.E0.P t with
  | none => simp [hel, no] at hc
  | some e =>
    simp only [hel] at hc hk
    split at hc <;> try (exact hc.elim)
    rename_i z c m news hz hsrc
    simp only [hz, hsrc] at hk
    obtain ⟨i, zv, hi, hzz, hvl⟩ := zeroT_run hz
    obtain ⟨g1, g2, ι, I, hat, henv⟩ := r
    have esz : szOf C.E0.P e = i.size := by simp [szOf, hi]
    have eby : bytesT C.E0.P e = i.bytes := by simp [bytesT, hi]
    have hzc : z.length = zv.cells.size := by have := (hvl ⟨C.E0.P, s.hp, ι, I, C.E0.A, w.heap⟩).1; simpa using this
    have hxv := V_ev henv x
    rw [hex] at hxv
    have hyv := V_ev henv y
    have hu := elemT_run hel
    unfold Oper.wp
    rw [he]
    split at hc <;> try (exact hc.elim)
    · rename_i j ver off len
      split at hc <;> try (exact hc.elim)
      rename_i v e' row hh
      simp only [hh] at hk
      obtain ⟨hcc, rfl, rfl, rfl, hrl, hsz, hzl, hby, h63⟩ := hc
      have hjd : j < C.T := by
        rcases Nat.lt_or_ge j (C.T) with h | h
        · exact h
        · have := g2.2 j h; simp [hh] at this
      obtain ⟨nv, hnv, hnl, hsa⟩ := srcOf_sound hat hyv hsrc hcc
      rw [esz] at hnl hrl hsz hzl hk
      rw [eby] at hby
      have hnews : news.length = m * i.size := by rw [hnv.1]; exact hnl
      cases hxv with
      | own _ _ _ _ _ hp =>
        obtain ⟨k1, k2⟩ := hp.2 (by simp [hh]) e' row (by simp [hh])
        cases hib : ι j with
        | none =>
          obtain ⟨hxe, _, rfl⟩ := k1 hib
          obtain ⟨er, hrow0⟩ := hat.hok.atNone j (.cells e' row) (by simp [hh]) hib
          simp only [AObj.cells.injEq] at hrow0
          obtain ⟨_, rfl⟩ := hrow0
          rcases hsa with ⟨cy, hye, rfl, rfl⟩ | ⟨ad, cy, hye, hcells⟩
          · have : news = [] := List.eq_nil_of_length_eq_zero (by simpa using hnews)
            subst this
            obtain ⟨q1, q2⟩ := hat.virtual j (v + 1) (by simp [hh]) e'
            have hr : (Builtin.append_ #[t, t] o.type #[.slice none 0 0, .slice none 0 cy]).run C.E0.P w = .ok (.slice none 0 0) w := by
              simp [Builtin.append_, run_underlying hu, sizeOf, typeInfo, hi, Builtin.lenOf, Builtin.firstCells]
            rw [hxe, hye]
            simp only [Sem.run_bind, hr, Result.andThen_ok, Sem.run_pure]
            refine hk _ _ (Rel.obj g1 g2 henv (by simpa using q1) (by simpa using q2) hjd hd ?_)
            simpa using own_virtual
          · by_cases hm : m = 0
            · subst hm
              have : news = [] := List.eq_nil_of_length_eq_zero (by simpa using hnews)
              subst this
              obtain ⟨q1, q2⟩ := hat.virtual j (v + 1) (by simp [hh]) e'
              have hr : (Builtin.append_ #[t, t] o.type #[.slice none 0 0, .slice (some ad) 0 cy]).run C.E0.P w = .ok (.slice none 0 0) w := by
                simp [Builtin.append_, run_underlying hu, sizeOf, typeInfo, hi, Builtin.lenOf, Builtin.firstCells, loadCells, loadCellsFrom]
              rw [hxe, hye]
              simp only [Sem.run_bind, hr, Result.andThen_ok, Sem.run_pure]
              refine hk _ _ (Rel.obj g1 g2 henv (by simpa using q1) (by simpa using q2) hjd hd ?_)
              simpa using own_virtual
            · have hby' : m * i.bytes ≤ 140737488355328 := by simpa using hby
              have hr := run_append_nil (P := C.E0.P) w t o.type e' i zv hu hi hzz ad m cy nv hnl hcells (by omega) (by omega) (by omega)
              have hge := grownCap_ge w m 0 e'
              have hcm : grownCap w m 0 e' ≤ maxLen := grownCap_le_maxLen w m 0 e' (by unfold maxLen; omega)
              obtain ⟨q1, q2⟩ := hat.alloc_drew j (v + 1) (by simp [hh]) e' news (nv.toArray ++ Builtin.zeroCells zv.cells (grownCap w m 0 e' - m)) (by
                simp only [Array.toList_append]; rw [List.take_left' (by simpa using hnv.1.symm)]; exact hnv) (by simp [hnv.1])
              rw [hxe, hye]
              simp only [Sem.run_bind, hr, Result.andThen_ok, Sem.run_pure]
              refine hk _ _ (Rel.obj g1 g2 henv (by simpa using q1) (by simpa using q2) hjd hd ?_)
              have := own_new (P := C.E0.P) (hp := s.hp) (ι := ι) (I := I) (A := C.E0.A) (id := j) (ver := v + 1) (row := news) (heap_drew_alloc_new w (.cells (nv.toArray ++ Builtin.zeroCells zv.cells (grownCap w m 0 e' - m)) e')) hge (by
                rw [esz]; simp only [Array.size_append, List.size_toArray, size_zeroCells, hnl, ← hzc, hzl, ← Nat.add_mul]; congr 1; omega) hcm
              simpa using this
        | some b =>
          obtain ⟨off', cap, c0, hxe, hlc, ho, hh2, hs⟩ := k2 b hib
          have := ho (.inr rfl)
          subst this
          obtain ⟨hcs, hcm⟩ := hs rfl
          rw [esz] at hcs
          obtain ⟨c2, hc2, hl2, hrow⟩ := hat.hok.row (id := j) (e := e') (row := row) (by simp [hh]) hib
          have : c2 = c0 := by simp only at hc2 hh2; rw [hh2] at hc2; simpa using hc2.symm
          subst this
          have hwb : w.heap[b]? = some (.cells c2 e' (0, 0)) := hh2
          have hl2' : row.length ≤ c2.size := hl2
          have holdV : VL ⟨C.E0.P, s.hp, ι, I, C.E0.A, w.heap⟩ (row.take (len * i.size)) (c2.toList.take (len * i.size)) := by
            have := hrow.take (len * i.size)
            rwa [List.take_take, Nat.min_eq_left (by omega)] at this
          have holdl : (row.take (len * i.size)).length = len * i.size := by simp; omega
          have hnewlen : (row.take (len * i.size) ++ news).length = (len + m) * i.size := by rw [List.length_append, holdl, hnews, Nat.add_mul]
          rw [hxe]
          by_cases hroom : len + m ≤ cap
          · have hfit : len * i.size + nv.length ≤ c2.size := by rw [hnl, hcs, ← Nat.add_mul]; exact Nat.mul_le_mul_right _ hroom
            have hr : ∃ c', c'.size = c2.size ∧ c'.toList.take ((len + m) * i.size) = c2.toList.take (len * i.size) ++ nv ∧ (Builtin.append_ #[t, t] o.type #[.slice (some ⟨b, 0, none⟩) len cap, a.eval y]).run C.E0.P w = .ok (.slice (some ⟨b, 0, none⟩) (len + m) cap) (w.setRow b c') := by
              rcases hsa with ⟨cy, hye, rfl, rfl⟩ | ⟨ad, cy, hye, hcells⟩
              · refine ⟨c2, rfl, by simp, ?_⟩
                rw [hye, setRow_self w b c2 e' (0, 0) hwb]
                simp at hroom
                simp [Builtin.append_, run_underlying hu, sizeOf, typeInfo, hi, Builtin.lenOf, Builtin.firstCells, hroom, storeCells]
              · have hr := run_append_room (P := C.E0.P) w t o.type e' i hu hi b len cap c2 hwb ad m cy nv hnl hcells hnv.one hroom hfit
                refine ⟨_, ?_, ?_, by rw [hye]; exact hr⟩
                · simp; omega
                · have e3 : (len + m) * i.size = (c2.toList.take (len * i.size) ++ nv).length := by
                    rw [List.length_append, List.length_take, hnl, Nat.add_mul]; simp; omega
                  rw [e3]; simp only []
                  exact List.take_left
            obtain ⟨c', hs', htk, hr⟩ := hr
            obtain ⟨q1, q2⟩ := hat.turn (id := j) (ver := v + 1) (row := row) (by simp [hh]) (by simp [hh]) hib hwb hs' (row.take (len * i.size) ++ news) (by rw [hnewlen, hcs]; exact Nat.mul_le_mul_right _ hroom) (by
              rw [hnewlen, htk]; exact holdV.append hnv)
            simp only [Sem.run_bind, hr, Result.andThen_ok, Sem.run_pure]
            refine hk _ _ (Rel.obj g1 g2 henv q1 q2 hjd hd ?_)
            exact own_new (setRow_heap w b c2 c' e' _ hwb) hroom (by rw [esz, hs', hcs]) hcm
          · have holds : ∀ q u, (c2.toList.take (len * i.size))[q]? = some u → w.cell? ((⟨b, 0, none⟩ : Addr).add q) = some u := by
              have := cells_at (o := 0) hwb (len * i.size); simpa using this
            have hm0 : 0 < m := by omega
            rcases hsa with ⟨cy, hye, rfl, rfl⟩ | ⟨ad, cy, hye, hcells⟩
            · omega
            · have hr := run_append_grow (P := C.E0.P) w t o.type e' i zv hu hi hzz ⟨b, 0, none⟩ len cap (c2.toList.take (len * i.size)) (by rw [List.length_take, Array.length_toList, hcs]; exact Nat.min_eq_left (Nat.mul_le_mul_right _ hlc)) holds ad m cy nv hnl hcells (by omega) (by omega) (growslice_fits (by omega) hby)
              have hge := grownCap_ge w (len + m) cap e'
              have hcm2 : grownCap w (len + m) cap e' ≤ maxLen := grownCap_le_maxLen w (len + m) cap e' (by unfold maxLen; omega)
              have hVV := holdV.append hnv
              obtain ⟨q1, q2⟩ := hat.alloc_drew j (v + 1) (by simp [hh]) e' (row.take (len * i.size) ++ news) ((c2.toList.take (len * i.size)).toArray ++ nv.toArray ++ Builtin.zeroCells zv.cells (grownCap w (len + m) cap e' - (len + m))) (by
                simp only [Array.toList_append]; rw [List.take_left' (by simpa using hVV.1.symm)]; exact hVV) (by
                  simp only [Array.size_append, List.size_toArray]; rw [hVV.1]; simp only [List.length_append]; omega)
              rw [hye]
              simp only [Sem.run_bind, hr, Result.andThen_ok, Sem.run_pure]
              refine hk _ _ (Rel.obj g1 g2 henv q1 q2 hjd hd ?_)
              refine own_new (heap_drew_alloc_new w _) hge ?_ hcm2
              rw [esz]
              have e5 : (c2.toList.take (len * i.size)).length = len * i.size := by rw [List.length_take, Array.length_toList, hcs]; exact Nat.min_eq_left (Nat.mul_le_mul_right _ hlc)
              simp only [Array.size_append, List.size_toArray, size_zeroCells, hnl, ← hzc, hzl, e5, ← Nat.add_mul]
              congr 1
              omega
    · rename_i kb
      obtain ⟨hcc, hsz, hzl, hby, h63⟩ := hc
      obtain ⟨nv, hnv, hnl, hsa⟩ := srcOf_sound hat hyv hsrc hcc
      rw [esz] at hnl hsz hzl
      rw [eby] at hby
      have hnews : news.length = m * i.size := by rw [hnv.1]; exact hnl
      have hxe : a.eval x = .slice none 0 0 := by
        generalize a.eval x = vx at hxv
        cases hxv with | d _ _ _ h => cases h; rfl
      rw [hxe]
      have hzero : m = 0 → ∀ K', (Rel C (s.app o.dst ⟨.own id ((s.hp id).1 + 1) 0 m, some (id, (s.hp id).1 + 1, some (.cells e news))⟩) (a.put o.dst (.slice none 0 0)) w → K') → K' := by
        intro hm K' hk'
        subst hm
        have : news = [] := List.eq_nil_of_length_eq_zero (by simpa using hnews)
        subst this
        obtain ⟨q1, q2⟩ := hat.virtual id ((s.hp id).1 + 1) (by omega) e
        exact hk' (Rel.obj g1 g2 henv q1 q2 hid hd own_virtual)
      rcases hsa with ⟨cy, hye, rfl, rfl⟩ | ⟨ad, cy, hye, hcells⟩
      · refine hzero rfl _ fun hrel => ?_
        have hr : (Builtin.append_ #[t, t] o.type #[.slice none 0 0, .slice none 0 cy]).run C.E0.P w = .ok (.slice none 0 0) w := by
          simp [Builtin.append_, run_underlying hu, sizeOf, typeInfo, hi, Builtin.lenOf, Builtin.firstCells]
        rw [hye]
        simp only [Sem.run_bind, hr, Result.andThen_ok, Sem.run_pure]
        exact hk _ _ hrel
      · by_cases hm : m = 0
        · refine hzero hm _ fun hrel => ?_
          subst hm
          have hr : (Builtin.append_ #[t, t] o.type #[.slice none 0 0, .slice (some ad) 0 cy]).run C.E0.P w = .ok (.slice none 0 0) w := by
            simp [Builtin.append_, run_underlying hu, sizeOf, typeInfo, hi, Builtin.lenOf, Builtin.firstCells, loadCells, loadCellsFrom]
          rw [hye]
          simp only [Sem.run_bind, hr, Result.andThen_ok, Sem.run_pure]
          exact hk _ _ hrel
        · have hr := run_append_nil (P := C.E0.P) w t o.type e i zv hu hi hzz ad m cy nv hnl hcells (by omega) (by omega) (by omega)
          have hge := grownCap_ge w m 0 e
          have hcm : grownCap w m 0 e ≤ maxLen := grownCap_le_maxLen w m 0 e (by unfold maxLen; omega)
          obtain ⟨q1, q2⟩ := hat.alloc_drew id ((s.hp id).1 + 1) (by omega) e news (nv.toArray ++ Builtin.zeroCells zv.cells (grownCap w m 0 e - m)) (by
            simp only [Array.toList_append]; rw [List.take_left' (by simpa using hnv.1.symm)]; exact hnv) (by simp [hnv.1])
          rw [hye]
          simp only [Sem.run_bind, hr, Result.andThen_ok, Sem.run_pure]
          refine hk _ _ (Rel.obj g1 g2 henv q1 q2 hid hd ?_)
          exact own_new (heap_drew_alloc_new w (.cells (nv.toArray ++ Builtin.zeroCells zv.cells (grownCap w m 0 e - m)) e)) hge (by
            rw [esz]; simp only [Array.size_append, List.size_toArray, size_zeroCells, hnl, ← hzc, hzl, ← Nat.add_mul]; congr 1; omega) hcm

end
end Go.Abs
