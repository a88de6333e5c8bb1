/- Pieces; new slices. No condition. -/
import Derived.Test.YtfhpoffgnpgagaaAbsG
import Derived.Laws.Slices
set_option linter.unusedSimpArgs false
set_option linter.unusedVariables false
namespace Go.Abs

section
variable {P : Program} {E : AEnv} {w : World}

theorem V_optInt_lo {lo : Option PV} {vlo : Option Value} (h : match lo, vlo with | none, none => True | some x, some v => V E x v | _, _ => False) {l : Int} (hl : optInt 0 lo = some l) :
    (lo = none ∧ vlo = none ∧ l = 0) ∨ ∃ k, vlo = some (.int k l) := by
  cases lo with
  | none => cases vlo with
    | none => simp [optInt] at hl; exact .inl ⟨rfl, rfl, hl.symm⟩
    | some v => exact h.elim
  | some x => cases vlo with
    | none => exact h.elim
    | some v =>
      unfold optInt at hl
      split at hl <;> try (simp at hl; done)
      · rename_i heq; cases heq
      · rename_i kb k z heq
        simp at heq hl; subst heq; subst hl
        have := V_int h; subst this
        exact .inr ⟨k, rfl⟩

theorem V_optInt_hi {d : Int} {lo : Option PV} {vlo : Option Value} (h : match lo, vlo with | none, none => True | some x, some v => V E x v | _, _ => False) {l : Int} (hl : optInt d lo = some l) :
    (lo = none ∧ vlo = none ∧ l = d) ∨ ∃ k, vlo = some (.int k l) := by
  cases lo with
  | none => cases vlo with
    | none => simp [optInt] at hl; exact .inl ⟨rfl, rfl, hl.symm⟩
    | some v => exact h.elim
  | some x => cases vlo with
    | none => exact h.elim
    | some v =>
      unfold optInt at hl
      split at hl <;> try (simp at hl; done)
      · rename_i heq; cases heq
      · rename_i kb k z heq
        simp at heq hl; subst heq; subst hl
        have := V_int h; subst this
        exact .inr ⟨k, rfl⟩

theorem run_bounds {isS : Bool} {len cap : Nat} {vlo vhi : Option Value} {l h : Int} (hlo : (vlo = none ∧ l = 0) ∨ ∃ k, vlo = some (.int k l)) (hhi : (vhi = none ∧ h = len) ∨ ∃ k, vhi = some (.int k h))
    (h0 : 0 ≤ l) (h1 : l ≤ h) (h2 : h ≤ cap) : (Instr.sliceBounds isS len cap vlo vhi none).run P w = .ok (l.toNat, h.toNat, cap) w := by
  have hh : 0 ≤ h := by omega
  have e : ((h.toNat : Nat) : Int) = h := by omega
  rcases hlo with ⟨rfl, rfl⟩ | ⟨k, rfl⟩ <;> rcases hhi with ⟨rfl, rfl⟩ | ⟨k2, rfl⟩ <;>
    simp [Instr.sliceBounds, Instr.sliceBound, asIntOf, h0, h1, h2, hh, e]

theorem extract_str (s : List UInt8) (l h : Nat) : (ByteArray.mk s.toArray).extract l h = ByteArray.mk ((s.drop l).take (h - l)).toArray := by
  apply ByteArray.ext
  apply Array.ext'
  simp [ByteArray.data_extract]

theorem fSlice_sound {t : TypeId} {x : PV} {v : Value} {lo hi : Option PV} {vlo vhi : Option Value} (hx : V E x v)
    (hlo : match lo, vlo with | none, none => True | some x, some v => V E x v | _, _ => False) (hhi : match hi, vhi with | none, none => True | some x, some v => V E x v | _, _ => False)
    (hc : (fSlice P E.hp t x lo hi).1) (hP : E.P = P) :
    (fSlice P E.hp t x lo hi).2.o = none ∧ ∃ u, V E (fSlice P E.hp t x lo hi).2.x u ∧ (Instr.sliceAt t v vlo vhi none).run P w = .ok u w := by
  have runS : ∀ e, P.underlying t = some (.slice e) → ∀ (a : Option Addr) (len cap : Nat), (Instr.sliceAt t (.slice a len cap) vlo vhi none).run P w = ((Instr.sliceBounds true len cap vlo vhi none).run P w).andThen fun (lhm : Nat × Nat × Nat) w => ((sizeOf e).run P w).andThen fun size w => .ok (.slice (if lhm.2.2 = lhm.1 then a else a.map (·.add (lhm.1 * size))) (lhm.2.1 - lhm.1) (lhm.2.2 - lhm.1)) w := by
    intro e hu a len cap
    simp [Instr.sliceAt, Instr.slice, run_underlying hu]
  unfold fSlice at hc ⊢
  split at hc <;> try (exact hc.elim)
  · rename_i k s
    split at hc <;> try (exact hc.elim)
    rename_i l h el eh
    obtain ⟨hs, h0, h1, h2⟩ := hc
    have hv := V_str hx; subst hv
    have b := run_bounds (P := P) (w := w) (isS := false) (len := s.length) (cap := s.length) ((V_optInt_lo hlo el).imp (fun h => ⟨h.2.1, h.2.2⟩) (fun h => h)) ((V_optInt_hi hhi eh).imp (fun h => ⟨h.2.1, h.2.2⟩) (fun h => h)) h0 h1 h2
    refine ⟨rfl, _, mk_str, ?_⟩
    have hz := size_str s
    simp [Instr.sliceAt, Instr.slice, run_underlying (isStr_run hs), hz, b, extract_str]
  · rename_i id ver off len
    split at hc <;> try (exact hc.elim)
    rename_i e l h he el eh
    obtain ⟨hl, hz, h0, h1, h2⟩ := hc
    have hu := elemT_run he
    have hsz := szOf_run (w := w) hz
    cases hx with
    | own _ _ _ _ _ hp =>
      obtain ⟨e2, row, h3, hor⟩ := own_live hp hl
      have hv2 := (liveRow.out hl).1
      rcases hor with ⟨hi, rfl, rfl, rfl⟩ | ⟨b, hb, off', cap, c, rfl, hlc, ho, hh, hs⟩
      · have el0 : l = 0 := by omega
        have eh0 : h = 0 := by omega
        subst el0; subst eh0
        have b := run_bounds (P := P) (w := w) (isS := true) (len := 0) (cap := 0) ((V_optInt_lo hlo el).imp (fun h => ⟨h.2.1, h.2.2⟩) (fun h => h)) ((V_optInt_hi hhi eh).imp (fun h => ⟨h.2.1, h.2.2⟩) (fun h => h)) h0 h1 h2
        refine ⟨rfl, .slice none 0 0, .own _ _ _ _ _ ⟨hp.1, fun _ e' r' hr => ⟨fun _ => ⟨rfl, by simp, by simp⟩, fun b' hb' => by rw [hi] at hb'; cases hb'⟩⟩, ?_⟩
        rw [runS e hu, b]
        simp [hsz]
      · have b2 := run_bounds (P := P) (w := w) (isS := true) (len := len) (cap := cap) ((V_optInt_lo hlo el).imp (fun h => ⟨h.2.1, h.2.2⟩) (fun h => h)) ((V_optInt_hi hhi eh).imp (fun h => ⟨h.2.1, h.2.2⟩) (fun h => h)) h0 h1 (by omega)
        refine ⟨rfl, .slice (if cap = l.toNat then some ⟨b, off', none⟩ else some ⟨b, off' + l.toNat * szOf P e, none⟩) (h.toNat - l.toNat) (cap - l.toNat), .own _ _ _ _ _ ⟨hp.1, fun _ e' r' hr => ⟨fun hn => (by rw [hn] at hb; cases hb), fun b' hb' => ?_⟩⟩, ?_⟩
        · have : b' = b := by rw [hb] at hb'; simpa using hb'.symm
          subst this
          have he2 : e' = e2 := by rw [h3] at hr; simp at hr; exact hr.1.symm
          subst he2
          have hmul : l.toNat = 0 ∨ 0 < l.toNat * szOf P e := by
            rcases Nat.eq_zero_or_pos l.toNat with h | h
            · exact .inl h
            · exact .inr (Nat.mul_pos h hz)
          by_cases hcl : cap = l.toNat
          · rw [if_pos hcl]
            refine ⟨off', cap - l.toNat, c, rfl, by omega, fun hh0 => ?_, hh, fun h00 => ?_⟩
            · rcases hh0 with hh0 | hh0
              · omega
              · have : off = 0 ∧ l.toNat = 0 := by
                  rcases hmul with hm | hm
                  · rw [hm] at hh0; simp at hh0; exact ⟨hh0, hm⟩
                  · omega
                have := ho (.inr this.1)
                omega
            · have : off = 0 ∧ l.toNat = 0 := by
                rcases hmul with hm | hm
                · rw [hm] at h00; simp at h00; exact ⟨h00, hm⟩
                · omega
              obtain ⟨q1, q2⟩ := hs this.1
              rw [this.2]; exact ⟨by simpa using q1, by omega⟩
          · rw [if_neg hcl]
            refine ⟨off' + l.toNat * szOf P e, cap - l.toNat, c, rfl, by omega, fun hh0 => ?_, hh, fun h00 => ?_⟩
            · have : off' = off := by
                apply ho
                rcases hh0 with hh0 | hh0
                · left; omega
                · right; omega
              rw [this]
            · have : off = 0 ∧ l.toNat = 0 := by
                rcases hmul with hm | hm
                · rw [hm] at h00; simp at h00; exact ⟨h00, hm⟩
                · omega
              obtain ⟨q1, q2⟩ := hs this.1
              rw [this.2]; exact ⟨by simpa using q1, by omega⟩
        · rw [runS e hu, b2]
          simp only [Result.andThen_ok, hsz, Option.map_some, Addr.add_lit]
  · rename_i k m cs
    split at hc <;> try (exact hc.elim)
    rename_i e l h he el eh
    obtain ⟨hz, h0, h1, h2, hlen⟩ := hc
    have hu := elemT_run he
    have hsz := szOf_run (w := w) hz
    cases hx with
    | d _ _ _ hv =>
      cases hv with
      | lst0 a cap =>
        have el0 : l = 0 := by omega
        have eh0 : h = 0 := by omega
        subst el0; subst eh0
        have b := run_bounds (P := P) (w := w) (isS := true) (len := 0) (cap := cap) ((V_optInt_lo hlo el).imp (fun h => ⟨h.2.1, h.2.2⟩) (fun h => h)) ((V_optInt_hi hhi eh).imp (fun h => ⟨h.2.1, h.2.2⟩) (fun h => h)) h0 h1 (by omega)
        refine ⟨rfl, .slice (if cap = 0 then a else a.map (·.add 0)) 0 cap, ?_, ?_⟩
        · have : V E (.d k (.lst 0 [])) (.slice (if cap = 0 then a else a.map (·.add 0)) 0 cap) := .d k _ _ (.lst0 _ _)
          simpa [valIf] using this
        · rw [runS e hu, b]
          simp [hsz]
      | lst _ _ b o cap c e2 fr hI hh hl hcap h7 h8 =>
        have b2 := run_bounds (P := P) (w := w) (isS := true) (len := m) (cap := cap) ((V_optInt_lo hlo el).imp (fun h => ⟨h.2.1, h.2.2⟩) (fun h => h)) ((V_optInt_hi hhi eh).imp (fun h => ⟨h.2.1, h.2.2⟩) (fun h => h)) h0 h1 (by omega)
        refine ⟨rfl, .slice (if cap = l.toNat then some ⟨b, o, none⟩ else some ⟨b, o + l.toNat * szOf P e, none⟩) (h.toNat - l.toNat) (cap - l.toNat), ?_, ?_⟩
        · by_cases hcl : h.toNat - l.toNat = 0
          · have : V E (.d k (.lst 0 [])) (.slice (if cap = l.toNat then some ⟨b, o, none⟩ else some ⟨b, o + l.toNat * szOf P e, none⟩) 0 (cap - l.toNat)) := .d k _ _ (.lst0 _ _)
            simpa [valIf, hcl] using this
          · have hne : ¬ cap = l.toNat := by omega
            rw [if_neg hne]
            have hk1 : l.toNat * szOf P e + (h.toNat - l.toNat) * szOf P e ≤ cs.length := by
              rw [← Nat.add_mul, hlen]; exact Nat.mul_le_mul_right _ (by omega)
            refine .d k _ _ (.lst _ _ b _ _ c e2 fr hI hh ?_ (by omega) (fun i d hd => ?_) (fun i d hd => ?_))
            · simp; omega
            · rw [List.getElem?_take] at hd
              split at hd
              · rw [List.getElem?_drop] at hd
                have := h7 _ d hd
                rwa [← Nat.add_assoc] at this
              · cases hd
            · rw [List.getElem?_take] at hd
              split at hd
              · rw [List.getElem?_drop] at hd
                have := h8 _ d hd
                rwa [← Nat.add_assoc] at this
              · cases hd
        · rw [runS e hu, b2]
          simp only [Result.andThen_ok, hsz, Option.map_some, Addr.add_lit]
  · rename_i k
    split at hc <;> try (exact hc.elim)
    rename_i e l h he el eh
    obtain ⟨hz, rfl, rfl⟩ := hc
    have hu := elemT_run he
    have hsz := szOf_run (w := w) hz
    cases hx with
    | d _ _ _ hv =>
      cases hv
      have b := run_bounds (P := P) (w := w) (isS := true) (len := 0) (cap := 0) ((V_optInt_lo hlo el).imp (fun h => ⟨h.2.1, h.2.2⟩) (fun h => h)) ((V_optInt_hi hhi eh).imp (fun h => ⟨h.2.1, h.2.2⟩) (fun h => h)) (by omega) (by omega) (by omega)
      refine ⟨rfl, _, .d k _ _ .nil, ?_⟩
      rw [runS e hu, b]
      simp [hsz]

end
end Go.Abs
