/- FsmWalks over its models: whatever the input, the call returns what the model answers; the statement out of the plain law. Condition: the plain law. -/
import Derived.Test.YtfhpoffgnpgagaaFn5
import Derived.ProofKit
import Derived.Deep.Matrix
import Derived.Below
import Derived.Carry
import Derived.ChangeSame
set_option linter.unusedSimpArgs false
set_option linter.unusedVariables false
namespace Go.Proofs.Ytfhpoffgnpgagaa
open Go Go.Proofs Go.Abs
open Go.ChangeShapes Go.WideShapes Go.ChangeAt Go.RowKit Go.Deep

def slcD : Option (List Int) → PD
  | none => .nil
  | some l => .lst l.length (isD l)
def rowsD : Option (List (Option (List Int))) → PD
  | none => .nil
  | some L => .lst L.length (L.map slcD)
def inI (l : List Int) : Prop := ∀ n ∈ l, -9223372036854775808 ≤ n ∧ n < 9223372036854775808

/-- The plain law: the model says yes, whatever the input. -/
def Law : Prop := ∀ (ns : Option (List Int)) (rows : Option (List (Option (List Int)))), (∀ l, ns = some l → inI l) → (∀ L, rows = some L → ∀ l, some l ∈ L → inI l) → ∃ n, F3 n false (slcD ns) false (rowsD rows) = some true

theorem cell_block {w : World} {a : Addr} {v : Value} (h : w.cell? a = some v) : a.spot = none ∧ ∃ c e fr, w.heap[a.block]? = some (.cells c e fr) ∧ c[a.off]? = some v := by
  unfold World.cell? at h
  split at h
  · rename_i c e fr hh
    split at h
    · cases h
    · rename_i hs
      refine ⟨by simpa using hs, c, e, fr, hh, h⟩
  · cases h

theorem cells_VD {w : World} {a : Addr} {len cap : Nat} {ds : List PD} (hl : len ≤ cap) (hlen : ds.length = len) (hc : ∀ i, i < len → ∃ v, w.cell? (a.add i) = some v ∧ v.oneCell' = true ∧ ∀ d, ds[i]? = some d → VD (fun b => False ∨ b < w.heap.size) w.heap d v) :
    VD (fun b => False ∨ b < w.heap.size) w.heap (.lst len ds) (.slice (some a) len cap) := by
  rcases Nat.eq_zero_or_pos len with h0 | h0
  · subst h0
    have : ds = [] := List.length_eq_zero_iff.1 hlen
    subst this
    exact .lst0 _ cap
  · obtain ⟨v0, hv0, _, _⟩ := hc 0 h0
    have ha : a.add 0 = a := by simp [Addr.add]
    rw [ha] at hv0
    obtain ⟨hs, c, e, fr, hb, hoff⟩ := cell_block hv0
    have each : ∀ i, i < len → ∃ v, c[a.off + i]? = some v ∧ v.oneCell' = true ∧ ∀ d, ds[i]? = some d → VD (fun b => False ∨ b < w.heap.size) w.heap d v := by
      intro i hi
      obtain ⟨v, hv, h1, h2⟩ := hc i hi
      obtain ⟨_, c', e', fr', hb', hoff'⟩ := cell_block hv
      have hblk : (a.add i).block = a.block := by unfold Addr.add; split <;> rfl
      have ho : (a.add i).off = a.off + i := by unfold Addr.add; split <;> simp_all
      rw [hblk, hb] at hb'
      simp only [Option.some.injEq, Obj.cells.injEq] at hb'
      rw [ho, ← hb'.1] at hoff'
      exact ⟨v, hoff', h1, h2⟩
    have hlt : a.block < w.heap.size := (Array.getElem?_eq_some_iff.1 hb).1
    obtain ⟨vl, hvl, _, _⟩ := each (len - 1) (by omega)
    have hsz := (Array.getElem?_eq_some_iff.1 hvl).1
    obtain ⟨ab, ao, asp⟩ := a
    simp only at hs hb hlt hsz each
    subst hs
    refine .lst len ds ab ao cap c e fr (.inr hlt) hb (by omega) hl (fun i d hd => ?_) (fun i d hd => ?_)
    · obtain ⟨v, hv, _, h2⟩ := each i (by rw [← hlen]; exact (List.getElem?_eq_some_iff.1 hd).1)
      rw [Array.getD_eq_getD_getElem?, hv]; exact h2 d hd
    · obtain ⟨v, hv, h1, _⟩ := each i (by rw [← hlen]; exact (List.getElem?_eq_some_iff.1 hd).1)
      rw [Array.getD_eq_getD_getElem?, hv]; exact h1

theorem wf_in {n : Int} (h : (Lit.int .i64 n).wf = true) : -9223372036854775808 ≤ n ∧ n < 9223372036854775808 := by
  simp [Lit.wf, IntKind.min, IntKind.max, IntKind.signed, IntKind.bits] at h
  omega

/-- The call, at memory: no object of anybody's; all that is there is lent. -/
theorem f3_at {ns : Option (List Int)} {rows : Option (List (Option (List Int)))} {W : World} {v0 v1 : Value} (h0 : VD (fun b => False ∨ b < W.heap.size) W.heap (slcD ns) v0) (h1 : VD (fun b => False ∨ b < W.heap.size) W.heap (rowsD rows) v1) {n : Nat} (H : F3 n false (slcD ns) false (rowsD rows) = some true) :
    Calls Try.prog 3 #[v0, v1] W fun e W' => e = .returned (.bool true) ∧ Below W.heap.size W W' := by
  have hA := f3_calls H 0 (fun _ => (0, none))
  have hd : ∀ x v, VD (fun b => False ∨ b < W.heap.size) W.heap x v → V ⟨Try.prog, fun _ => (0, none), fun _ => none, fun _ => False, fun b => b < W.heap.size, W.heap⟩ (dk false x) v := fun x v h => V_dk (.d false x v h)
  refine (hA ⟨fun _ => none, fun _ => False, fun b => b < W.heap.size, W⟩ #[v0, v1] (fun _ _ => rfl) ⟨fun id o ho => by simp at ho, fun id o b ho => by simp at ho, fun id id' o o' b ho => by simp at ho, fun b hb => by simpa using hb⟩ rfl (fun i x hx => ?_)).mono fun e w' hh => ?_
  · match i, hx with
    | 0, hx => simp at hx; subst hx; exact hd _ _ h0
    | 1, hx => simp at hx; subst hx; exact hd _ _ h1
    | i + 2, hx => simp at hx
  · obtain ⟨ι', I', hp', r, v, rfl, ⟨rfl, _⟩, hat, hv, _⟩ := hh
    refine ⟨by rw [V_bool hv], hat.os, hat.tape, hat.output, hat.size, fun b hb => hat.keep b hb fun id o ho => by simp [mkC, mkCn] at ho⟩

section
variable {H : Type} {enc : TypeId × Value → H} {P : Program}
theorem post_of_below' {f : Func} {s : ChangeSpec} {apart fresh handsOn again : Bool} {W W' : World} {args : Array Value} {v : Value} {ds gs : List (DataW H)} {before pa pv : List MemPlace}
    (hW : DataW.Whole enc P f.params.toList s.vars apart W args.toList ds gs before)
    (hres : ∀ (b : Nat) (sp : Nat → Bool) (hd : Bool), DataW.TrodAll enc P W' b sp hd f.resultTypes.toList (v.resultList f.resultTypes.size) (s.fn H (ds ++ gs)).results [])
    (hargs : ∀ sp : Nat → Bool, (∀ p ∈ before, sp p.block = true) → DataW.TrodAll enc P W' 0 sp true f.params.toList args.toList (s.fn H (ds ++ gs)).args pa)
    (hvars : ∀ sp : Nat → Bool, (∀ p ∈ before, sp p.block = true) → DataW.TrodVars enc P W' sp s.vars (s.fn H (ds ++ gs)).vars pv)
    (hps : before = pa ++ pv) (hb : Below W.heap.size W W')
    (hok : ∀ (j : Nat) (t : TypeId) (r : Value), f.resultTypes[j]? = some t → (v.resultList f.resultTypes.size)[j]? = some r → Value.okWide P W' .any 0 t r) :
    s.post enc P f apart fresh handsOn again W args v W' := by
  have hlt : ∀ p ∈ before, p.block < W.heap.size := fun p hp => hW.lt p hp
  have hold : ∀ p ∈ before, (fun b => decide (b < W.heap.size)) p.block = true := fun p hp => by simpa using hlt p hp
  refine ⟨ds, gs, before, [], pa, pv, hW, hres _ _ _, hargs _ hold, hvars _ hold, World.keptBut_mono (fun p hp => ⟨hp, ?_⟩) (hb.frame (· ∈ before)), fun _ => ?_⟩
  · rw [hps, List.mem_append] at hp
    exact Or.inr hp
  · obtain ⟨_, _, _, _, _, hz, hn⟩ := hW
    refine ⟨hok, _, _, ([] ++ pa) ++ pv, ⟨[] ++ pa, pv, trodAll_append (hargs _ (fun _ _ => rfl)) (hres _ _ _), hvars _ (fun _ _ => rfl), rfl, ?_, ?_⟩, ?_⟩
    · intro b off hp
      have hin : MemPlace.cell b off ∈ before := by rw [hps]; simpa using hp
      rw [hb.frozen (hlt _ hin)]
      exact hz b off hin
    · intro ha
      have := hn ha
      rw [hps] at this
      simpa using this
    · intro p hp _
      rw [hps]
      simpa using hp
end

theorem Try.own : ownKnob Try.prog.godebug = none := by kernel_rfl
theorem Try.laidOut : laidOutB Try.prog = true := by kernel_rfl

set_option maxRecDepth 100000 in
theorem cells3 : Try.prog.cellsOf 3 = 1 := by kernel_rfl
set_option maxRecDepth 100000 in
theorem cells22 : Try.prog.cellsOf 22 = 1 := by kernel_rfl

set_option maxRecDepth 100000 in
theorem open_ns {H : Type} {enc : TypeId × Value → H} {W : World} {base : Nat} {v0 : Value} {d0 : DataW H} {p0 : List MemPlace} (hv : Value.okWide Try.prog W .any base 22 v0) (h : DataW.Trod enc Try.prog W 0 (fun _ => true) true 22 v0 d0 p0) :
    ∃ ns : Option (List Int), (∀ l, ns = some l → inI l) ∧ VD (fun b => False ∨ b < W.heap.size) W.heap (slcD ns) v0 := by
  obtain ⟨a0, len, cap, rfl⟩ := okWide_slice Try.underlying22 hv
  obtain ⟨fuel, hf⟩ := h
  rcases open_ints Try.underlying22 Try.underlying3 cells3 hf with ⟨hcs, hx⟩ | ⟨a, len', cap', zs, hcs, _, hl, hm, hz, hx, hcell, hwz⟩
  · simp [Value.cells] at hcs
    obtain ⟨rfl, rfl, rfl⟩ := hcs
    exact ⟨none, by simp, .nil⟩
  · simp [Value.cells] at hcs
    obtain ⟨rfl, rfl, rfl⟩ := hcs
    simp only [if_true] at hz
    refine ⟨some (zs.take len), fun l hl => ?_, ?_⟩
    · simp at hl; subst hl
      intro n hn
      exact wf_in (hwz n (List.mem_of_mem_take hn))
    · have hlen : (zs.take len).length = len := by simp; omega
      unfold slcD
      simp only [hlen]
      refine cells_VD hl (by rw [isD_length, hlen]) fun i hi => ⟨.int .i64 (zs.getD i 0), hcell i (by omega), rfl, fun d hd => ?_⟩
      have : (zs.take len)[i]? = zs[i]? := by rw [List.getElem?_take, if_pos hi]
      simp only [isD, iD, List.getElem?_map, this] at hd
      cases hzi : zs[i]? with
      | none => rw [hzi] at hd; simp at hd
      | some z =>
        rw [hzi] at hd; simp at hd; subst hd
        rw [List.getD_eq_getElem?_getD, hzi]; exact .int _ _

set_option maxRecDepth 100000 in
theorem open_rs {H : Type} {enc : TypeId × Value → H} {W : World} {base : Nat} {v0 : Value} {d0 : DataW H} {p0 : List MemPlace} (hv : Value.okWide Try.prog W .any base 23 v0) (h : DataW.Trod enc Try.prog W 0 (fun _ => true) true 23 v0 d0 p0) :
    ∃ rows : Option (List (Option (List Int))), (∀ L, rows = some L → ∀ l, some l ∈ L → inI l) ∧ VD (fun b => False ∨ b < W.heap.size) W.heap (rowsD rows) v0 := by
  obtain ⟨a0, len, cap, rfl⟩ := okWide_slice Try.underlying23 hv
  obtain ⟨fuel, hf⟩ := h
  rcases open_int_rows Try.underlying23 Try.underlying22 Try.underlying3 cells22 cells3 hf with ⟨hcs, hx⟩ | ⟨a, len', cap', A, L, C, Z, hcs, _, hl, hm, hx, hrow⟩
  · simp [Value.cells] at hcs
    obtain ⟨rfl, rfl, rfl⟩ := hcs
    exact ⟨none, by simp, .nil⟩
  · simp [Value.cells] at hcs
    obtain ⟨rfl, rfl, rfl⟩ := hcs
    let R : Nat → Option (List Int) := fun r => match A r with | none => none | some _ => some ((Z r).take (L r))
    have hR0 : ∀ r, A r = none → R r = none := fun r h => by simp only [R, h]
    have hR1 : ∀ r a, A r = some a → R r = some ((Z r).take (L r)) := fun r a h => by simp only [R, h]
    refine ⟨some ((List.range len).map R), fun L' hL' l hl' => ?_, ?_⟩
    · simp at hL'; subst hL'
      simp only [List.mem_map, List.mem_range] at hl'
      obtain ⟨r, hr, hRr⟩ := hl'
      obtain ⟨_, _, _, _, hw, _, _⟩ := hrow r (by omega)
      cases hA : A r with
      | none => rw [hR0 r hA] at hRr; cases hRr
      | some a' =>
        rw [hR1 r a' hA] at hRr; simp at hRr; subst hRr
        intro n hn
        exact wf_in (hw n (List.mem_of_mem_take hn))
    · have hlen : ((List.range len).map R).length = len := by simp
      unfold rowsD
      simp only [hlen]
      refine cells_VD hl (by simp) fun i hi => ?_
      obtain ⟨e1, e2, e3, e4, e5, e6, e7⟩ := hrow i (by omega)
      refine ⟨_, e1, rfl, fun d hd => ?_⟩
      simp only [List.map_map, List.getElem?_map, List.getElem?_range hi, Option.map_some, Function.comp_apply, Option.some.injEq] at hd
      subst hd
      cases hA : A i with
      | none =>
        rw [hR0 i hA]
        have c0 := e6 hA
        have l0 : L i = 0 := by omega
        rw [c0, l0]; exact .nil
      | some a' =>
        rw [hR1 i a' hA]
        have hl2 : ((Z i).take (L i)).length = L i := by simp; omega
        unfold slcD
        simp only [hl2]
        refine cells_VD e2 (by rw [isD_length, hl2]) fun j hj => ⟨.int .i64 ((Z i).getD j 0), (e7 a' hA).2 j (by omega), rfl, fun d hd => ?_⟩
        have : ((Z i).take (L i))[j]? = (Z i)[j]? := by rw [List.getElem?_take, if_pos hj]
        simp only [isD, iD, List.getElem?_map, this] at hd
        cases hzi : (Z i)[j]? with
        | none => rw [hzi] at hd; simp at hd
        | some z =>
          rw [hzi] at hd; simp at hd; subst hd
          rw [List.getD_eq_getElem?_getD, hzi]; exact .int _ _

set_option maxRecDepth 100000 in
theorem fsm_lifted (law : Law) (os : Os) (started : os.Started) (H : Type) (enc : TypeId × Value → H) :
    ReturnsInHanded {} Try.checked os 3 .any (Rows.fsmWalksSpec.pre6 enc Try.prog Try.f3 Rows.fsmWalksRow.domain false) (Rows.fsmWalksSpec.post enc Try.prog Try.f3 false true false false) := by
  refine returnsInHanded_of_change (C := Try.checked) Try.own started (by kernel_rfl) Try.func3
    (ChangeSpec.witness6 (enc := enc) (C := Try.checked) false ⟨#[], #[.slice none 0 0, .slice none 0 0], []⟩ 8 (by kernel_rfl) (by kernel_rfl) (by kernel_rfl) (by kernel_rfl)) ?_
  intro W base args ds gs before hval0 hW hcnd _
  have hval : ∀ (j : Nat) t v, Try.f3.params[j]? = some t → args[j]? = some v → Value.okWide Try.prog W .any base t v := hval0
  have hW' := hW
  obtain ⟨p, q, hA0, hV, rfl, hfz, hnd⟩ := hW
  have hA : DataW.TrodAll enc Try.prog W 0 (fun _ => true) true Try.f3.params.toList args.toList ds p := hA0
  rw [Try.params3] at hA hval
  obtain ⟨v0, v1, d0, d1, p0, p1, rfl, rfl, rfl, h0, h1⟩ := trodAll_two hA
  obtain ⟨rfl, rfl⟩ := trodVars_none hV
  obtain ⟨ns, hns, e0⟩ := open_ns (hval 0 22 v0 rfl rfl) h0
  obtain ⟨rows, hrs, e1⟩ := open_rs (hval 1 23 v1 rfl rfl) h1
  obtain ⟨n, Hn⟩ := law ns rows hns hrs
  have hlt : ∀ x ∈ p0 ++ p1, x.block < W.heap.size := fun x hx => hW'.lt x (by simpa using hx)
  have hrec : ∀ t ∈ Try.f3.params.toList, Try.prog.readableRec t = true := of_decide_eq_true (by kernel_rfl)
  refine (f3_at e0 e1 Hn).mono fun e W' ⟨he, hb⟩ => ?_
  subst he
  clear hA0 hval0
  simp only [List.append_nil] at hW'
  refine ⟨_, rfl, post_of_below' (pa := p0 ++ p1) (pv := []) hW' (fun _ _ _ => trodAll_mk1 (shut_bool Try.underlying4 true)) (fun sp hsp => trodAll_mk2 ?_ ?_) (fun _ _ => rfl) (by simp) hb (ok_one (by kernel_rfl) rfl (okWide_bool_mk Try.underlying4 true))⟩
  · exact WideElems.Trod_stays Try.laidOut (by kernel_rfl) (of_decide_eq_true (by kernel_rfl)) h0 (fun x hx => hb.same (hlt x (by simp [hx]))) (fun x hx => hsp x (by simp [hx]))
  · exact WideElems.Trod_stays Try.laidOut (by kernel_rfl) (of_decide_eq_true (by kernel_rfl)) h1 (fun x hx => hb.same (hlt x (by simp [hx]))) (fun x hx => hsp x (by simp [hx]))

theorem fsm_of_law (law : Law) : Rows.FsmWalksSaid :=
  OpenClaim.holds_of_wide 3 Try.f3 rfl rfl rfl rfl rfl rfl rfl ⟨rfl, rfl, rfl, rfl, rfl⟩ rfl rfl rfl rfl rfl (by kernel_rfl) Try.func3 (by kernel_rfl)
    (of_decide_eq_true (by kernel_rfl)) (by unfold Func.isWrapper; first | (rw [if_pos (by decide +kernel)]; kernel_rfl) | (rw [if_neg (by decide +kernel)]; exact ⟨rfl, rfl⟩))
    (fun os started H enc _ => fsm_lifted law os started H enc)
end Go.Proofs.Ytfhpoffgnpgagaa
