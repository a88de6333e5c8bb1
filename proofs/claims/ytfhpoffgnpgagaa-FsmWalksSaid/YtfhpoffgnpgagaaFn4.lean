/- Functions of the program: what each does, in plain Lean, and that it does. Laid by program. Condition of each: its model answers. -/
import Derived.Test.YtfhpoffgnpgagaaFn0
set_option linter.unusedSimpArgs false
set_option linter.unusedVariables false
namespace Go.Proofs.Ytfhpoffgnpgagaa
open Go Go.Proofs Go.Abs
set_option linter.unusedVariables false
set_option maxRecDepth 100000
def F35_K1 (x9 : PD) (x1 : Int) (x11 : Nat) (x13 : Nat) (x14 : Nat) (x16 : List PD) (x2 : Int) (x17 : List PD) (x3 : Int) (x53 : Nat) (x57 : List PD) : Option (Nat × Nat × Nat × (List PD) × (List PD) × (List PD)) :=
  gd (idxOK 1 x9 x1) <|
  gd ((1 ≤ (((cellsD x9).drop ((x1).toNat * 1))).length) ∧ (isI .i64 ((((cellsD x9).drop ((x1).toNat * 1))).getD 0 .nil) = true)) <|
  gd (0 ≤ (intD ((((cellsD x9).drop ((x1).toNat * 1))).getD 0 .nil)) ∧ (intD ((((cellsD x9).drop ((x1).toNat * 1))).getD 0 .nil)) < (x11 : Nat)) <|
  some ((x13 + 1), (x14 + 1), x53, (x16 ++ ([(.int .i64 x2)] : List PD)), (x17 ++ ([(.int .i64 x3)] : List PD)), x57)

def J35_1 (C : Ctx) (N : Nat) (hp : HP) (id1 w1 : Nat) (id2 w2 : Nat) (id3 w3 : Nat) (id4 w4 : Nat) (id5 w5 : Nat) (x9 : PD) (x1 : Int) (x11 : Nat) (x13 : Nat) (x14 : Nat) (x16 : List PD) (x2 : Int) (x17 : List PD) (x3 : Int) (x7 : PD) (x8 : PD) (x10 : PD) (x12 : List PV) (rr : Nat × Nat × Nat × (List PD) × (List PD) × (List PD)) (s : ASt) : Prop :=
  ∃ (hpx : HP) (v52 v54 v55 v56 : Nat) (x53 : Nat) (x57 : List PD), Gh C s ⟨envL [(0, (PV.ptr id1 w1 0)), (1, (PV.d true (.int .i64 x1))), (12, (PV.ptr (N + 12) v52 0))], hpL N hpx [(12, (v52, some (.cells 36 [(PV.own id3 v54 0 (x13 + 1)), (PV.own id4 v55 0 (x14 + 1)), (PV.own id5 v56 0 x53)])))]⟩ ∧ (∀ id, id < N → id ≠ id1 → id ≠ id2 → id ≠ id3 → id ≠ id4 → id ≠ id5 → hpx id = hp id) ∧ hpx id1 = (w1, some (.cells 72 [(PV.d true x7), (PV.d true x8), (PV.d true x9), (PV.d true x10), (PV.own id2 w2 0 x11)])) ∧ hpx id2 = (w2, some (.cells 36 x12)) ∧ hpx id3 = (v54, some (.cells 3 (((x16 ++ ([(.int .i64 x2)] : List PD))).map (PV.d true)))) ∧ hpx id4 = (v55, some (.cells 3 (((x17 ++ ([(.int .i64 x3)] : List PD))).map (PV.d true)))) ∧ hpx id5 = (v56, some (.cells 51 ((x57).map (PV.d true)))) ∧ F35_K1 x9 x1 x11 x13 x14 x16 x2 x17 x3 x53 x57 = some rr

def F35 (n : Nat) (x1 : Int) (x2 : Int) (x3 : Int) (x4 : Int) (x5 : List UInt8) (x6 : Bool) (x7 : PD) (x8 : PD) (x9 : PD) (x10 : PD) (x11 : Nat) (x12 : List PV) (x13 : Nat) (x14 : Nat) (x15 : Nat) (x16 : List PD) (x17 : List PD) (x18 : List PD) : Option (Nat × Nat × Nat × (List PD) × (List PD) × (List PD)) :=
  gd (idxOK 1 x9 x1) <|
  gd ((1 ≤ (((cellsD x9).drop ((x1).toNat * 1))).length) ∧ (isI .i64 ((((cellsD x9).drop ((x1).toNat * 1))).getD 0 .nil) = true)) <|
  gd (0 ≤ (intD ((((cellsD x9).drop ((x1).toNat * 1))).getD 0 .nil)) ∧ (intD ((((cellsD x9).drop ((x1).toNat * 1))).getD 0 .nil)) < (x11 : Nat)) <|
  gd ((apOK 8 (x13 + 1)) ∧ (x13 * 1 = (x16).length)) <|
  gd ((apOK 8 (x14 + 1)) ∧ (x14 * 1 = (x17).length)) <|
  bif x6 then
    gd ((apOK 24 (x15 + 1)) ∧ (x15 * 2 = (x18).length)) <|
    F35_K1 x9 x1 x11 x13 x14 x16 x2 x17 x3 (x15 + 1) (x18 ++ ([(.int .i64 x4), (.str x5)] : List PD))
  else
    F35_K1 x9 x1 x11 x13 x14 x16 x2 x17 x3 x15 x18

set_option maxHeartbeats 4000000 in
theorem f35_calls {n : Nat} {x1 : Int} {x2 : Int} {x3 : Int} {x4 : Int} {x5 : List UInt8} {x6 : Bool} {x7 : PD} {x8 : PD} {x9 : PD} {x10 : PD} {x11 : Nat} {x12 : List PV} {x13 : Nat} {x14 : Nat} {x15 : Nat} {x16 : List PD} {x17 : List PD} {x18 : List PD} {r : Nat × Nat × Nat × (List PD) × (List PD) × (List PD)} (H : F35 n x1 x2 x3 x4 x5 x6 x7 x8 x9 x10 x11 x12 x13 x14 x15 x16 x17 x18 = some r) (N : Nat) (hp : HP) {id1 w1 : Nat} {id2 w2 : Nat} {id3 w3 : Nat} {id4 w4 : Nat} {id5 w5 : Nat} (hid1 : id1 < N) (ho1 : hp id1 = (w1, some (.cells 72 [(PV.d true x7), (PV.d true x8), (PV.d true x9), (PV.d true x10), (PV.own id2 w2 0 x11)]))) (hid2 : id2 < N) (ho2 : hp id2 = (w2, some (.cells 36 x12))) (hid3 : id3 < N) (ho3 : hp id3 = (w3, some (.cells 3 ((x16).map (PV.d true))))) (hid4 : id4 < N) (ho4 : hp id4 = (w4, some (.cells 3 ((x17).map (PV.d true))))) (hid5 : id5 < N) (ho5 : hp id5 = (w5, some (.cells 51 ((x18).map (PV.d true))))) (hn1_2 : id1 ≠ id2) (hn1_3 : id1 ≠ id3) (hn1_4 : id1 ≠ id4) (hn1_5 : id1 ≠ id5) (hn2_3 : id2 ≠ id3) (hn2_4 : id2 ≠ id4) (hn2_5 : id2 ≠ id5) (hn3_4 : id3 ≠ id4) (hn3_5 : id3 ≠ id5) (hn4_5 : id4 ≠ id5) (hq1 : (((intD ((((cellsD x9).drop ((x1).toNat * 1))).getD 0 .nil))).toNat * 3) + 3 ≤ x12.length) (hq2 : (x12.drop (((intD ((((cellsD x9).drop ((x1).toNat * 1))).getD 0 .nil))).toNat * 3)).take 3 = [(PV.own id3 w3 0 x13), (PV.own id4 w4 0 x14), (PV.own id5 w5 0 x15)]) (hq3 : ∀ {cs : List PV}, locsOK N cs → locsOK N (setAt x12 (((intD ((((cellsD x9).drop ((x1).toNat * 1))).getD 0 .nil))).toNat * 3) cs)) : ACalls Try.prog 35 N [(PV.ptr id1 w1 0), (PV.d true (.int .i64 x1)), (PV.d true (.int .i64 x2)), (PV.d true (.int .i64 x3)), (PV.agg [(PV.d true (.int .i64 x4)), (PV.d true (.str x5))]), (PV.d true (.bool x6))] hp fun r' hp' => ∃ u3 u4 u5 : Nat, r' = (.d true (.tup [])) ∧ hp' = (upd (upd (upd (upd hp id2 (w2, some (.cells 36 (setAt x12 (((intD ((((cellsD x9).drop ((x1).toNat * 1))).getD 0 .nil))).toNat * 3) [(PV.own id3 u3 0 r.1), (PV.own id4 u4 0 r.2.1), (PV.own id5 u5 0 r.2.2.1)])))) id3 (u3, some (.cells 3 ((r.2.2.2.1).map (PV.d true))))) id4 (u4, some (.cells 3 ((r.2.2.2.2.1).map (PV.d true))))) id5 (u5, some (.cells 51 ((r.2.2.2.2.2).map (PV.d true))))) := by
  unfold F35 at H
  refine acalls_body Try.func35 rfl rfl Try.ntmps35 (by simp) fun X hX => ?_
  refine awp_start (l := [(0, (PV.ptr id1 w1 0)), (1, (PV.d true (.int .i64 x1))), (2, (PV.d true (.int .i64 x2))), (3, (PV.d true (.int .i64 x3))), (4, (PV.agg [(PV.d true (.int .i64 x4)), (PV.d true (.str x5))])), (5, (PV.d true (.bool x6)))]) (N := N) ⟨rfl, rfl, rfl, rfl, rfl, rfl, trivial⟩ ?_
  have hlow0 : ∀ id, id < N → id ≠ id1 → id ≠ id2 → id ≠ id3 → id ≠ id4 → id ≠ id5 → hp id = hp id := fun _ _ _ _ _ _ _ => rfl
  refine awp_regionL fun y19 hy19 => ?_
  refine goL_n (d' := 10) (st_box (v := (PV.agg [(PV.d true (.int .i64 x4)), (PV.d true (.str x5))])) (cs := [(PV.d true (.int .i64 x4)), (PV.d true (.str x5))]) rfl rfl ⟨rfl, rfl, trivial⟩) rfl fun v20 => ?_
  subst hy19
  refine awp_drawL 16 14 [] follows_any (by kernel_rfl) (by kernel_rfl) (by kernel_rfl) (by kernel_rfl) fun opsd22 Kd22 hod22 hKd22 => ?_
  refine goA_r (rd := []) trivial (st_mv (v := (PV.ptr id1 w1 0)) rfl) rfl rfl ?_
  refine goA_r (rd := [id1]) trivial (st_nil_p rfl (hpL_low' hid1 ho1)) rfl rfl ?_
  refine goA_r (rd := [id1]) trivial (st_fa_p (o' := 4) fi_72_4 (by decide) rfl (hpL_low' hid1 ho1) rfl) rfl rfl ?_
  refine goA_r (rd := [id1]) trivial (st_ld_p (c := (PV.own id2 w2 0 x11)) ty_30 rfl (hpL_low' hid1 ho1) rfl) rfl rfl ?_
  refine goA_r (rd := []) trivial (st_mv (v := (PV.ptr id1 w1 0)) rfl) rfl rfl ?_
  refine goA_r (rd := [id1]) trivial (st_nil_p rfl (hpL_low' hid1 ho1)) rfl rfl ?_
  refine goA_r (rd := [id1]) trivial (st_fa_p (o' := 2) fi_72_2 (by decide) rfl (hpL_low' hid1 ho1) rfl) rfl rfl ?_
  refine goA_r (rd := [id1]) trivial (st_ld_p (c := (PV.d true x9)) ty_22 rfl (hpL_low' hid1 ho1) rfl) rfl rfl ?_
  refine goA_r (rd := []) trivial (st_mv (v := (PV.d true (.int .i64 x1))) rfl) rfl rfl ?_
  obtain ⟨g23, H⟩ := gd_out H
  refine goA_r (rd := []) trivial (st_ia_d el_22 sz_3 (by decide) (y := x9) rfl rfl g23) rfl rfl ?_
  obtain ⟨⟨g24, g25⟩, H⟩ := gd_out H
  refine goA_r (rd := []) trivial (st_ld_lp ty_3 rfl g24 (cI g25)) rfl rfl ?_
  obtain ⟨g26, H⟩ := gd_out H
  refine goA_r (rd := [id2]) trivial (st_ia_o el_30 sz_36 (by decide) rfl (hpL_low' hid2 ho2) rfl g26) rfl rfl ?_
  refine goA_r (rd := [id2]) trivial (st_ldA_p (row := x12) (cs := [(PV.own id3 w3 0 x13), (PV.own id4 w4 0 x14), (PV.own id5 w5 0 x15)]) ty_36 rfl (hpL_low' hid2 ho2) hq1 hq2) rfl rfl ?_
  refine goA_n (d' := 12) (rd := [(N + 12)]) trivial (st_alloc ze_36) rfl rfl fun v27 => ?_
  refine goA_nil ?_
  rw [hKd22]
  refine ⟨?_, goOps_goL ?_⟩
  · simp [objsW, objsY] <;> omega
  refine goL_o0 (st_sto (x := (PV.agg [(PV.own id3 w3 0 x13), (PV.own id4 w4 0 x14), (PV.own id5 w5 0 x15)])) (cs := [(PV.own id3 w3 0 x13), (PV.own id4 w4 0 x14), (PV.own id5 w5 0 x15)]) (row' := [(PV.own id3 w3 0 x13), (PV.own id4 w4 0 x14), (PV.own id5 w5 0 x15)]) ty_36 rfl hpL_hit rfl rfl rfl (Nat.le_of_ble_eq_true rfl) ⟨fits_o (hpL_low' hid3 ho3), fits_o (hpL_low' hid4 ho4), fits_o (hpL_low' hid5 ho5), trivial⟩ rfl) rfl ?_
  refine awp_drawL 15 11 [(0, 4), (0, 9), (1, 4), (1, 9), (2, 3), (2, 4), (2, 9), (3, 4), (3, 9), (3, 10), (4, 9), (4, 10), (5, 9), (6, 9), (7, 8), (7, 9), (8, 9)] follows_any (by kernel_rfl) (by kernel_rfl) (by kernel_rfl) (by kernel_rfl) fun opsd29 Kd29 hod29 hKd29 => ?_
  refine goA_r (rd := [(N + 12)]) trivial (st_fa_p (o' := 0) fi_36_0 (by decide) rfl hpL_hit rfl) rfl rfl ?_
  refine goA_r (rd := [(N + 12)]) trivial (st_ld_p (c := (PV.own id3 w3 0 x13)) ty_22 rfl hpL_hit rfl) rfl rfl ?_
  refine goA_r (rd := []) trivial (st_mv (v := (PV.d true (.int .i64 x2))) rfl) rfl rfl ?_
  refine goA_n (d' := 29) (rd := [(N + 29)]) trivial (st_bs1 (x := (PV.d true (.int .i64 x2))) (cs := [(PV.d true (.int .i64 x2))]) el_22 ze_3 sz_3 (by decide) rfl (by decide) rfl rfl rfl ⟨rfl, trivial⟩) rfl rfl fun v30 => ?_
  obtain ⟨⟨g31, g32⟩, H⟩ := gd_out H
  refine goA_nc (rd := [id3, (N + 29), (N + 30)]) trivial (st_ap_o (row := (x16).map (PV.d true)) (news := (([(.int .i64 x2)] : List PD)).map (PV.d true)) (m := 1) (vy := (PV.own (N + 29) v30 0 1)) el_22 ze_3 sz_3 by_3 (by decide) rfl rfl (hpL_low' hid3 ho3) rfl (src_own sz_3 hpL_hit rfl) g31 (by rw [List.length_map]; exact g32) (app_D _ _)) hid3 rfl rfl fun v33 => ?_
  obtain ⟨hpx34, qhpx34⟩ : ∃ h, h = (upd hp id3 (v33, some (.cells 3 (((x16 ++ ([(.int .i64 x2)] : List PD))).map (PV.d true))))) := ⟨_, rfl⟩
  rw [← qhpx34]
  have hc35 : hpx34 id1 = (w1, some (.cells 72 [(PV.d true x7), (PV.d true x8), (PV.d true x9), (PV.d true x10), (PV.own id2 w2 0 x11)])) := (congrFun qhpx34 id1).trans ((upd_ne _ _ hn1_3).trans (ho1))
  have hc36 : hpx34 id2 = (w2, some (.cells 36 x12)) := (congrFun qhpx34 id2).trans ((upd_ne _ _ hn2_3).trans (ho2))
  have hc37 : hpx34 id3 = (v33, some (.cells 3 (((x16 ++ ([(.int .i64 x2)] : List PD))).map (PV.d true)))) := (congrFun qhpx34 id3).trans (upd_eq _ _ _)
  have hc38 : hpx34 id4 = (w4, some (.cells 3 ((x17).map (PV.d true)))) := (congrFun qhpx34 id4).trans ((upd_ne _ _ (Ne.symm hn3_4)).trans (ho4))
  have hc39 : hpx34 id5 = (w5, some (.cells 51 ((x18).map (PV.d true)))) := (congrFun qhpx34 id5).trans ((upd_ne _ _ (Ne.symm hn3_5)).trans (ho5))
  have hlow40 : ∀ id, id < N → id ≠ id1 → id ≠ id2 → id ≠ id3 → id ≠ id4 → id ≠ id5 → hpx34 id = hp id := fun id hid nid1 nid2 nid3 nid4 nid5 => (congrFun qhpx34 id).trans ((upd_ne _ _ nid3).trans (hlow0 id hid nid1 nid2 nid3 nid4 nid5))
  clear qhpx34
  refine goA_r (rd := [(N + 12)]) trivial (st_fa_p (o' := 1) fi_36_1 (by decide) rfl (hpL_miss rfl hpL_hit) rfl) rfl rfl ?_
  refine goA_r (rd := [(N + 12)]) trivial (st_ld_p (c := (PV.own id4 w4 0 x14)) ty_22 rfl (hpL_miss rfl hpL_hit) rfl) rfl rfl ?_
  refine goA_r (rd := []) trivial (st_mv (v := (PV.d true (.int .i64 x3))) rfl) rfl rfl ?_
  refine goA_n (d' := 34) (rd := [(N + 34)]) trivial (st_bs1 (x := (PV.d true (.int .i64 x3))) (cs := [(PV.d true (.int .i64 x3))]) el_22 ze_3 sz_3 (by decide) rfl (by decide) rfl rfl rfl ⟨rfl, trivial⟩) rfl rfl fun v41 => ?_
  obtain ⟨⟨g42, g43⟩, H⟩ := gd_out H
  refine goA_nc (rd := [id4, (N + 34), (N + 35)]) trivial (st_ap_o (row := (x17).map (PV.d true)) (news := (([(.int .i64 x3)] : List PD)).map (PV.d true)) (m := 1) (vy := (PV.own (N + 34) v41 0 1)) el_22 ze_3 sz_3 by_3 (by decide) rfl rfl (hpL_low' hid4 hc38) rfl (src_own sz_3 hpL_hit rfl) g42 (by rw [List.length_map]; exact g43) (app_D _ _)) hid4 rfl rfl fun v44 => ?_
  obtain ⟨hpx45, qhpx45⟩ : ∃ h, h = (upd hpx34 id4 (v44, some (.cells 3 (((x17 ++ ([(.int .i64 x3)] : List PD))).map (PV.d true))))) := ⟨_, rfl⟩
  rw [← qhpx45]
  have hc46 : hpx45 id1 = (w1, some (.cells 72 [(PV.d true x7), (PV.d true x8), (PV.d true x9), (PV.d true x10), (PV.own id2 w2 0 x11)])) := (congrFun qhpx45 id1).trans ((upd_ne _ _ hn1_4).trans (hc35))
  have hc47 : hpx45 id2 = (w2, some (.cells 36 x12)) := (congrFun qhpx45 id2).trans ((upd_ne _ _ hn2_4).trans (hc36))
  have hc48 : hpx45 id3 = (v33, some (.cells 3 (((x16 ++ ([(.int .i64 x2)] : List PD))).map (PV.d true)))) := (congrFun qhpx45 id3).trans ((upd_ne _ _ hn3_4).trans (hc37))
  have hc49 : hpx45 id4 = (v44, some (.cells 3 (((x17 ++ ([(.int .i64 x3)] : List PD))).map (PV.d true)))) := (congrFun qhpx45 id4).trans (upd_eq _ _ _)
  have hc50 : hpx45 id5 = (w5, some (.cells 51 ((x18).map (PV.d true)))) := (congrFun qhpx45 id5).trans ((upd_ne _ _ (Ne.symm hn4_5)).trans (hc39))
  have hlow51 : ∀ id, id < N → id ≠ id1 → id ≠ id2 → id ≠ id3 → id ≠ id4 → id ≠ id5 → hpx45 id = hp id := fun id hid nid1 nid2 nid3 nid4 nid5 => (congrFun qhpx45 id).trans ((upd_ne _ _ nid4).trans (hlow40 id hid nid1 nid2 nid3 nid4 nid5))
  clear qhpx45
  refine goA_r (rd := [(N + 12)]) trivial (st_fa_p (o' := 0) fi_36_0 (by decide) rfl (hpL_miss rfl (hpL_miss rfl hpL_hit)) rfl) rfl rfl ?_
  refine goA_nil ?_
  rw [hKd29]
  refine ⟨?_, goOps_goL ?_⟩
  · simp [objsW, objsY] <;> omega
  refine goL_o0 (st_sto (x := (PV.own id3 v33 0 (x13 + 1))) (cs := [(PV.own id3 v33 0 (x13 + 1))]) (row' := [(PV.own id3 v33 0 (x13 + 1)), (PV.own id4 w4 0 x14), (PV.own id5 w5 0 x15)]) ty_22 rfl (hpL_miss rfl (hpL_miss rfl hpL_hit)) rfl rfl rfl (Nat.le_of_ble_eq_true rfl) ⟨fits_o (hpL_low' hid3 hc48), trivial⟩ rfl) rfl ?_
  refine goL_s (st_fa_p (o' := 1) fi_36_1 (by decide) rfl hpL_hit rfl) rfl ?_
  refine goL_o0 (st_sto (x := (PV.own id4 v44 0 (x14 + 1))) (cs := [(PV.own id4 v44 0 (x14 + 1))]) (row' := [(PV.own id3 v33 0 (x13 + 1)), (PV.own id4 v44 0 (x14 + 1)), (PV.own id5 w5 0 x15)]) ty_22 rfl hpL_hit rfl rfl rfl (Nat.le_of_ble_eq_true rfl) ⟨fits_o (hpL_low' hid4 hc49), trivial⟩ rfl) rfl ?_
  refine awp_cut (J35_1 (mkC 58 N Try.prog hp X) N hp id1 w1 id2 w2 id3 w3 id4 w4 id5 w5 x9 x1 x11 x13 x14 x16 x2 x17 x3 x7 x8 x10 x12 r) ?_ ?_
  · refine awp_regionL fun y78 hy78 => ?_
    refine goL_s (st_mv (v := (PV.d true (.bool x6))) rfl) rfl ?_
    subst hy78
    refine awp_ifL (b := x6) rfl (fun y80 hy80 hb79 => ?_) (fun y80 hy80 hb79 => ?_)
    · replace H := cond_t H hb79
      subst hy80
      refine awp_regionL1 ?_
      refine goL_s (st_fa_p (o' := 2) fi_36_2 (by decide) rfl hpL_hit rfl) rfl ?_
      refine goL_s (st_ld_p (c := (PV.own id5 w5 0 x15)) ty_34 rfl hpL_hit rfl) rfl ?_
      refine goL_s (st_ldA_p (cs := [(PV.d true (.int .i64 x4)), (PV.d true (.str x5))]) ty_51 rfl (hpL_miss rfl (hpL_miss rfl (hpL_miss rfl (hpL_miss rfl (hpL_miss rfl (hpL_miss rfl hpL_hit)))))) (Nat.le_of_ble_eq_true rfl) rfl) rfl ?_
      refine goL_n (d' := 42) (st_bs1 (x := (PV.agg [(PV.d true (.int .i64 x4)), (PV.d true (.str x5))])) (cs := [(PV.d true (.int .i64 x4)), (PV.d true (.str x5))]) el_34 ze_51 sz_51 (by decide) rfl (by decide) rfl rfl rfl ⟨rfl, rfl, trivial⟩) rfl fun v81 => ?_
      obtain ⟨⟨g82, g83⟩, H⟩ := gd_out H
      refine goL_nc (st_ap_o (row := (x18).map (PV.d true)) (news := (([(.int .i64 x4), (.str x5)] : List PD)).map (PV.d true)) (m := 1) (vy := (PV.own (N + 42) v81 0 1)) el_34 ze_51 sz_51 by_51 (by decide) rfl rfl (hpL_low' hid5 hc50) rfl (src_own sz_51 hpL_hit rfl) g82 (by rw [List.length_map]; exact g83) (app_D _ _)) hid5 rfl fun v84 => ?_
      obtain ⟨hpx85, qhpx85⟩ : ∃ h, h = (upd hpx45 id5 (v84, some (.cells 51 (((x18 ++ ([(.int .i64 x4), (.str x5)] : List PD))).map (PV.d true))))) := ⟨_, rfl⟩
      rw [← qhpx85]
      have hc86 : hpx85 id1 = (w1, some (.cells 72 [(PV.d true x7), (PV.d true x8), (PV.d true x9), (PV.d true x10), (PV.own id2 w2 0 x11)])) := (congrFun qhpx85 id1).trans ((upd_ne _ _ hn1_5).trans (hc46))
      have hc87 : hpx85 id2 = (w2, some (.cells 36 x12)) := (congrFun qhpx85 id2).trans ((upd_ne _ _ hn2_5).trans (hc47))
      have hc88 : hpx85 id3 = (v33, some (.cells 3 (((x16 ++ ([(.int .i64 x2)] : List PD))).map (PV.d true)))) := (congrFun qhpx85 id3).trans ((upd_ne _ _ hn3_5).trans (hc48))
      have hc89 : hpx85 id4 = (v44, some (.cells 3 (((x17 ++ ([(.int .i64 x3)] : List PD))).map (PV.d true)))) := (congrFun qhpx85 id4).trans ((upd_ne _ _ hn4_5).trans (hc49))
      have hc90 : hpx85 id5 = (v84, some (.cells 51 (((x18 ++ ([(.int .i64 x4), (.str x5)] : List PD))).map (PV.d true)))) := (congrFun qhpx85 id5).trans (upd_eq _ _ _)
      have hlow91 : ∀ id, id < N → id ≠ id1 → id ≠ id2 → id ≠ id3 → id ≠ id4 → id ≠ id5 → hpx85 id = hp id := fun id hid nid1 nid2 nid3 nid4 nid5 => (congrFun qhpx85 id).trans ((upd_ne _ _ nid5).trans (hlow51 id hid nid1 nid2 nid3 nid4 nid5))
      clear qhpx85
      refine goL_s (st_fa_p (o' := 2) fi_36_2 (by decide) rfl (hpL_miss rfl hpL_hit) rfl) rfl ?_
      refine goL_o0 (st_sto (x := (PV.own id5 v84 0 (x15 + 1))) (cs := [(PV.own id5 v84 0 (x15 + 1))]) (row' := [(PV.own id3 v33 0 (x13 + 1)), (PV.own id4 v44 0 (x14 + 1)), (PV.own id5 v84 0 (x15 + 1))]) ty_34 rfl (hpL_miss rfl hpL_hit) rfl rfl rfl (Nat.le_of_ble_eq_true rfl) ⟨fits_o (hpL_low' hid5 hc90), trivial⟩ rfl) rfl ?_
      refine thenA_n ?_
      unfold J35_1
      exact ⟨_, v27, v33, v44, v84, (x15 + 1), (x18 ++ ([(.int .i64 x4), (.str x5)] : List PD)), Gh.join ⟨rfl, rfl, rfl, trivial⟩ ⟨hpL_hit, trivial⟩, fun id hid nid1 nid2 nid3 nid4 nid5 => (hpL_low hid).trans (hlow91 id hid nid1 nid2 nid3 nid4 nid5), (hpL_low hid1).trans hc86, (hpL_low hid2).trans hc87, (hpL_low hid3).trans hc88, (hpL_low hid4).trans hc89, (hpL_low hid5).trans hc90, H⟩
    · replace H := cond_f H hb79
      subst hy80
      refine awp_skip ?_
      refine thenA_n ?_
      unfold J35_1
      exact ⟨_, v27, v33, v44, w5, x15, x18, Gh.join ⟨rfl, rfl, rfl, trivial⟩ ⟨hpL_hit, trivial⟩, fun id hid nid1 nid2 nid3 nid4 nid5 => (hpL_low hid).trans (hlow51 id hid nid1 nid2 nid3 nid4 nid5), (hpL_low hid1).trans hc46, (hpL_low hid2).trans hc47, (hpL_low hid3).trans hc48, (hpL_low hid4).trans hc49, (hpL_low hid5).trans hc50, H⟩
  · intro s hJ
    unfold J35_1 at hJ
    obtain ⟨hpx58, v52, v54, v55, v56, x53, x57, hG60, hlow59, hc61, hc62, hc63, hc64, hc65, H⟩ := hJ
    unfold F35_K1 at H
    refine awp_gh hG60 ?_
    clear hG60
    refine awp_drawL1 15 12 [] follows_any (by kernel_rfl) (by kernel_rfl) (by kernel_rfl) (by kernel_rfl) fun opsd66 Kd66 hod66 hKd66 => ?_
    refine goA_s trivial (st_mv (v := (PV.ptr id1 w1 0)) rfl) rfl fun rd0 => ?_
    refine goA_s trivial (st_nil_p rfl (hpL_low' hid1 hc61)) rfl fun rd1 => ?_
    refine goA_s trivial (st_fa_p (o' := 4) fi_72_4 (by decide) rfl (hpL_low' hid1 hc61) rfl) rfl fun rd2 => ?_
    refine goA_s trivial (st_ld_p (c := (PV.own id2 w2 0 x11)) ty_30 rfl (hpL_low' hid1 hc61) rfl) rfl fun rd3 => ?_
    refine goA_s trivial (st_mv (v := (PV.ptr id1 w1 0)) rfl) rfl fun rd4 => ?_
    refine goA_s trivial (st_nil_p rfl (hpL_low' hid1 hc61)) rfl fun rd5 => ?_
    refine goA_s trivial (st_fa_p (o' := 2) fi_72_2 (by decide) rfl (hpL_low' hid1 hc61) rfl) rfl fun rd6 => ?_
    refine goA_s trivial (st_ld_p (c := (PV.d true x9)) ty_22 rfl (hpL_low' hid1 hc61) rfl) rfl fun rd7 => ?_
    refine goA_s trivial (st_mv (v := (PV.d true (.int .i64 x1))) rfl) rfl fun rd8 => ?_
    obtain ⟨g67, H⟩ := gd_out H
    refine goA_s trivial (st_ia_d el_22 sz_3 (by decide) (y := x9) rfl rfl g67) rfl fun rd9 => ?_
    obtain ⟨⟨g68, g69⟩, H⟩ := gd_out H
    refine goA_s trivial (st_ld_lp ty_3 rfl g68 (cI g69)) rfl fun rd10 => ?_
    refine goA_s trivial (st_ldA_p (cs := [(PV.own id3 v54 0 (x13 + 1)), (PV.own id4 v55 0 (x14 + 1)), (PV.own id5 v56 0 x53)]) ty_36 rfl hpL_hit (Nat.le_of_ble_eq_true rfl) rfl) rfl fun rd11 => ?_
    refine goA_nil ?_
    rw [hKd66]
    refine ⟨?_, goOps_goL ?_⟩
    · trivial
    obtain ⟨g70, H⟩ := gd_out H
    refine goL_s (st_ia_o el_30 sz_36 (by decide) rfl (hpL_low' hid2 hc62) rfl g70) rfl ?_
    refine goL_c0 (st_sto (x := (PV.agg [(PV.own id3 v54 0 (x13 + 1)), (PV.own id4 v55 0 (x14 + 1)), (PV.own id5 v56 0 x53)])) (cs := [(PV.own id3 v54 0 (x13 + 1)), (PV.own id4 v55 0 (x14 + 1)), (PV.own id5 v56 0 x53)]) (row := x12) (row' := (setAt x12 (((intD ((((cellsD x9).drop ((x1).toNat * 1))).getD 0 .nil))).toNat * 3) [(PV.own id3 v54 0 (x13 + 1)), (PV.own id4 v55 0 (x14 + 1)), (PV.own id5 v56 0 x53)])) ty_36 rfl (hpL_low' hid2 hc62) rfl rfl rfl hq1 ⟨fits_o (hpL_low' hid3 hc63), fits_o (hpL_low' hid4 hc64), fits_o (hpL_low' hid5 hc65), trivial⟩ rfl) hid2 rfl ?_
    obtain ⟨hpx71, qhpx71⟩ : ∃ h, h = (upd hpx58 id2 (w2, some (.cells 36 (setAt x12 (((intD ((((cellsD x9).drop ((x1).toNat * 1))).getD 0 .nil))).toNat * 3) [(PV.own id3 v54 0 (x13 + 1)), (PV.own id4 v55 0 (x14 + 1)), (PV.own id5 v56 0 x53)])))) := ⟨_, rfl⟩
    rw [← qhpx71]
    have hc72 : hpx71 id1 = (w1, some (.cells 72 [(PV.d true x7), (PV.d true x8), (PV.d true x9), (PV.d true x10), (PV.own id2 w2 0 x11)])) := (congrFun qhpx71 id1).trans ((upd_ne _ _ hn1_2).trans (hc61))
    have hc73 : hpx71 id2 = (w2, some (.cells 36 (setAt x12 (((intD ((((cellsD x9).drop ((x1).toNat * 1))).getD 0 .nil))).toNat * 3) [(PV.own id3 v54 0 (x13 + 1)), (PV.own id4 v55 0 (x14 + 1)), (PV.own id5 v56 0 x53)]))) := (congrFun qhpx71 id2).trans (upd_eq _ _ _)
    have hc74 : hpx71 id3 = (v54, some (.cells 3 (((x16 ++ ([(.int .i64 x2)] : List PD))).map (PV.d true)))) := (congrFun qhpx71 id3).trans ((upd_ne _ _ (Ne.symm hn2_3)).trans (hc63))
    have hc75 : hpx71 id4 = (v55, some (.cells 3 (((x17 ++ ([(.int .i64 x3)] : List PD))).map (PV.d true)))) := (congrFun qhpx71 id4).trans ((upd_ne _ _ (Ne.symm hn2_4)).trans (hc64))
    have hc76 : hpx71 id5 = (v56, some (.cells 51 ((x57).map (PV.d true)))) := (congrFun qhpx71 id5).trans ((upd_ne _ _ (Ne.symm hn2_5)).trans (hc65))
    have hlow77 : ∀ id, id < N → id ≠ id1 → id ≠ id2 → id ≠ id3 → id ≠ id4 → id ≠ id5 → hpx71 id = hp id := fun id hid nid1 nid2 nid3 nid4 nid5 => (congrFun qhpx71 id).trans ((upd_ne _ _ nid2).trans (hlow59 id hid nid1 nid2 nid3 nid4 nid5))
    clear qhpx71
    obtain rfl := Option.some.inj H
    refine retn (ds := []) (by decide) ResL.nil (hp2 := (upd (upd (upd (upd hp id2 (w2, some (.cells 36 (setAt x12 (((intD ((((cellsD x9).drop ((x1).toNat * 1))).getD 0 .nil))).toNat * 3) [(PV.own id3 v54 0 (x13 + 1)), (PV.own id4 v55 0 (x14 + 1)), (PV.own id5 v56 0 x53)])))) id3 (v54, some (.cells 3 (((x16 ++ ([(.int .i64 x2)] : List PD))).map (PV.d true))))) id4 (v55, some (.cells 3 (((x17 ++ ([(.int .i64 x3)] : List PD))).map (PV.d true))))) id5 (v56, some (.cells 51 ((x57).map (PV.d true)))))) ?_ ?_ (lowOK_also (lowOK_also (lowOK_also (lowOK_also lowOK_same (hq3 ⟨hid3, hid4, hid5, trivial⟩)) (locs_R _)) (locs_R _)) (locs_R _)) ⟨v54, v55, v56, rfl, rfl⟩ (.inl rfl)
    · intro id hid
      by_cases nid1 : id = id1
      · rw [nid1]; exact (hpL_low hid1).trans (hc72.trans (Eq.symm ((upd_ne _ _ hn1_5).trans ((upd_ne _ _ hn1_4).trans ((upd_ne _ _ hn1_3).trans ((upd_ne _ _ hn1_2).trans (ho1)))))))
      by_cases nid2 : id = id2
      · rw [nid2]; exact (hpL_low hid2).trans (hc73.trans (Eq.symm ((upd_ne _ _ hn2_5).trans ((upd_ne _ _ hn2_4).trans ((upd_ne _ _ hn2_3).trans (upd_eq _ _ _))))))
      by_cases nid3 : id = id3
      · rw [nid3]; exact (hpL_low hid3).trans (hc74.trans (Eq.symm ((upd_ne _ _ hn3_5).trans ((upd_ne _ _ hn3_4).trans (upd_eq _ _ _)))))
      by_cases nid4 : id = id4
      · rw [nid4]; exact (hpL_low hid4).trans (hc75.trans (Eq.symm ((upd_ne _ _ hn4_5).trans (upd_eq _ _ _))))
      by_cases nid5 : id = id5
      · rw [nid5]; exact (hpL_low hid5).trans (hc76.trans (Eq.symm (upd_eq _ _ _)))
      exact (hpL_low hid).trans ((hlow77 id hid nid1 nid2 nid3 nid4 nid5).trans (Eq.symm ((upd_ne _ _ nid5).trans ((upd_ne _ _ nid4).trans ((upd_ne _ _ nid3).trans ((upd_ne _ _ nid2).trans (rfl)))))))
    · intro id hid; exact (upd_ne _ _ (fun e => absurd hid5 (by omega))).trans ((upd_ne _ _ (fun e => absurd hid4 (by omega))).trans ((upd_ne _ _ (fun e => absurd hid3 (by omega))).trans ((upd_ne _ _ (fun e => absurd hid2 (by omega))).trans (rfl))))

theorem rowW_len (F : Nat) (vs : Nat → Nat) : ∀ (cs : List Col) (i : Nat), (rowW F vs i cs).length = cs.length * 3
  | [], _ => rfl
  | c :: cs, i => by simp only [rowW, List.length_cons, rowW_len F vs cs (i + 1)]; omega

theorem rowW_at {F : Nat} {vs : Nat → Nat} : ∀ (cs : List Col) (i j : Nat) {c : Col}, cs[j]? = some c → ((rowW F vs i cs).drop (j * 3)).take 3 = [.own (F + 3 * (i + j)) (vs (3 * (i + j))) 0 c.r.length, .own (F + 3 * (i + j) + 1) (vs (3 * (i + j) + 1)) 0 c.d.length, .own (F + 3 * (i + j) + 2) (vs (3 * (i + j) + 2)) 0 c.v.length]
  | [], _, _, _, h => by simp at h
  | c :: cs, i, 0, _, h => by simp at h; subst h; simp [rowW]
  | c :: cs, i, j + 1, c', h => by
    have := rowW_at (F := F) (vs := vs) cs (i + 1) j (by simpa using h)
    rw [show (j + 1) * 3 = j * 3 + 3 by omega, show i + (j + 1) = i + 1 + j by omega, ← this]
    simp [rowW]

theorem rowW_congr {F : Nat} {vs vs' : Nat → Nat} : ∀ (cs : List Col) (i : Nat), (∀ t, 3 * i ≤ t → vs' t = vs t) → rowW F vs' i cs = rowW F vs i cs
  | [], _, _ => rfl
  | c :: cs, i, h => by
    simp only [rowW]
    rw [h _ (by omega), h _ (by omega), h _ (by omega), rowW_congr cs (i + 1) fun t ht => h t (by omega)]

theorem rowW_set {F : Nat} {vs vs' : Nat → Nat} {c' : Col} : ∀ (cs : List Col) (i j : Nat), j < cs.length → (∀ t, t ≠ 3 * (i + j) → t ≠ 3 * (i + j) + 1 → t ≠ 3 * (i + j) + 2 → vs' t = vs t) →
    setAt (rowW F vs i cs) (j * 3) [.own (F + 3 * (i + j)) (vs' (3 * (i + j))) 0 c'.r.length, .own (F + 3 * (i + j) + 1) (vs' (3 * (i + j) + 1)) 0 c'.d.length, .own (F + 3 * (i + j) + 2) (vs' (3 * (i + j) + 2)) 0 c'.v.length] = rowW F vs' i (cs.set j c')
  | [], _, _, h, _ => by simp at h
  | c :: cs, i, 0, _, hv => by
    simp only [List.set_cons_zero, rowW, setAt, Nat.zero_mul, Nat.add_zero, List.take_zero, List.nil_append]
    rw [rowW_congr cs (i + 1) fun t ht => hv t (by omega) (by omega) (by omega)]
    simp
  | c :: cs, i, j + 1, h, hv => by
    have := rowW_set (F := F) (c' := c') (vs := vs) (vs' := vs') cs (i + 1) j (by simpa using h) (by rw [show i + 1 + j = i + (j + 1) by omega]; exact hv)
    rw [show i + 1 + j = i + (j + 1) by omega] at this
    simp only [List.set_cons_succ, rowW]
    rw [← this, hv (3 * i) (by omega) (by omega) (by omega), hv (3 * i + 1) (by omega) (by omega) (by omega), hv (3 * i + 2) (by omega) (by omega) (by omega)]
    rw [show (j + 1) * 3 = j * 3 + 1 + 1 + 1 by omega]
    simp only [setAt, List.take_succ_cons, List.cons_append, List.length_cons, List.length_nil]
    rw [show j * 3 + 1 + 1 + 1 + (0 + 1 + 1 + 1) = j * 3 + (0 + 1 + 1 + 1) + 1 + 1 + 1 by omega]
    simp only [List.drop_succ_cons]

theorem locsOK_app {N : Nat} : ∀ {a b : List PV}, locsOK N a → locsOK N b → locsOK N (a ++ b)
  | [], _, _, h => h
  | _ :: _, _, h, k => ⟨h.1, locsOK_app h.2 k⟩
theorem locsOK_take {N : Nat} : ∀ {a : List PV} (n : Nat), locsOK N a → locsOK N (a.take n)
  | [], n, h => by simp; trivial
  | x :: a, 0, _ => trivial
  | x :: a, n + 1, h => ⟨h.1, locsOK_take n h.2⟩
theorem locsOK_drop {N : Nat} : ∀ {a : List PV} (n : Nat), locsOK N a → locsOK N (a.drop n)
  | [], n, h => by simp; trivial
  | x :: a, 0, h => h
  | x :: a, n + 1, h => locsOK_drop (a := a) n h.2

/-- One cell of a leaf: the columns behind it. -/
def F35w (_n : Nat) (x1 x2 x3 x4 : Int) (x5 : List UInt8) (x6 : Bool) (_x7 _x8 x9 _x10 : PD) (xC : List Col) : Option (List Col) :=
  gd (idxOK 1 x9 x1) <|
  gd ((1 ≤ (((cellsD x9).drop ((x1).toNat * 1))).length) ∧ (isI .i64 ((((cellsD x9).drop ((x1).toNat * 1))).getD 0 .nil) = true)) <|
  gd (0 ≤ (intD ((((cellsD x9).drop ((x1).toNat * 1))).getD 0 .nil)) ∧ (intD ((((cellsD x9).drop ((x1).toNat * 1))).getD 0 .nil)) < (xC.length : Nat)) <|
  gd (apOK 8 ((xC.getD (intD ((((cellsD x9).drop ((x1).toNat * 1))).getD 0 .nil)).toNat default).r.length + 1) ∧ apOK 8 ((xC.getD (intD ((((cellsD x9).drop ((x1).toNat * 1))).getD 0 .nil)).toNat default).d.length + 1) ∧ apOK 24 ((xC.getD (intD ((((cellsD x9).drop ((x1).toNat * 1))).getD 0 .nil)).toNat default).v.length + 1)) <|
  some (xC.set (intD ((((cellsD x9).drop ((x1).toNat * 1))).getD 0 .nil)).toNat ⟨(xC.getD (intD ((((cellsD x9).drop ((x1).toNat * 1))).getD 0 .nil)).toNat default).r ++ [x2], (xC.getD (intD ((((cellsD x9).drop ((x1).toNat * 1))).getD 0 .nil)).toNat default).d ++ [x3], bif x6 then (xC.getD (intD ((((cellsD x9).drop ((x1).toNat * 1))).getD 0 .nil)).toNat default).v ++ [(x4, x5)] else (xC.getD (intD ((((cellsD x9).drop ((x1).toNat * 1))).getD 0 .nil)).toNat default).v⟩)

theorem f35w_calls {n : Nat} {x1 x2 x3 x4 : Int} {x5 : List UInt8} {x6 : Bool} {x7 x8 x9 x10 : PD} {xC r : List Col} (H : F35w n x1 x2 x3 x4 x5 x6 x7 x8 x9 x10 xC = some r) (N : Nat) (hp : HP) {iC vC Fb k : Nat} {id1 w1 : Nat} (hid1 : id1 < N)
    (ho1 : hp id1 = (w1, some (.cells 72 [(PV.d true x7), (PV.d true x8), (PV.d true x9), (PV.d true x10), (PV.own iC vC 0 k)]))) (hW : WkF hp iC vC Fb k xC) (hFt : ∀ id, FootW iC Fb k id → id < N) (hnF : ¬ FootW iC Fb k id1) :
    ACalls Try.prog 35 N [(PV.ptr id1 w1 0), (PV.d true (.int .i64 x1)), (PV.d true (.int .i64 x2)), (PV.d true (.int .i64 x3)), (PV.agg [(PV.d true (.int .i64 x4)), (PV.d true (.str x5))]), (PV.d true (.bool x6))] hp
      fun r' hp' => r' = (.d true (.tup [])) ∧ WkF hp' iC vC Fb k r ∧ ∀ id, ¬ FootW iC Fb k id → hp' id = hp id := by
  unfold F35w at H
  obtain ⟨g1, H⟩ := gd_out H
  obtain ⟨g2, H⟩ := gd_out H
  obtain ⟨g3, H⟩ := gd_out H
  obtain ⟨g4, H⟩ := gd_out H
  obtain rfl := Option.some.inj H
  clear H
  obtain ⟨len, iF, vs, hC, hcols⟩ := hW
  generalize hz : intD (((cellsD x9).drop (x1.toNat * 1)).getD 0 .nil) = z at *
  obtain ⟨j, rfl⟩ : ∃ j : Nat, z = j := ⟨z.toNat, by omega⟩
  have hj : j < xC.length := by omega
  simp only [Int.toNat_natCast] at g4 ⊢
  have hcj : xC[j]? = some (xC.getD j default) := by simp [hj]
  generalize hc : xC.getD j default = c at *
  obtain ⟨a, b, e⟩ := hcols j c hcj
  have Hraw : F35 n x1 x2 x3 x4 x5 x6 x7 x8 x9 x10 k (rowW Fb vs 0 xC) c.r.length c.d.length c.v.length (isD c.r) (isD c.d) (valsD c.v) =
      some (c.r.length + 1, c.d.length + 1, (bif x6 then c.v.length + 1 else c.v.length), isD (c.r ++ [x2]), isD (c.d ++ [x3]), valsD (bif x6 then c.v ++ [(x4, x5)] else c.v)) := by
    have e1 : isD c.r ++ [PD.int .i64 x2] = isD (c.r ++ [x2]) := by simp [isD, iD]
    have e2 : isD c.d ++ [PD.int .i64 x3] = isD (c.d ++ [x3]) := by simp [isD, iD]
    have e3 : valsD c.v ++ [PD.int .i64 x4, PD.str x5] = valsD (c.v ++ [(x4, x5)]) := by simp [valsD]
    unfold F35 F35_K1
    rw [hz]
    cases x6
    · rw [gd_in g1, gd_in g2, gd_in (by omega), gd_in ⟨g4.1, by rw [isD_length]; omega⟩, gd_in ⟨g4.2.1, by rw [isD_length]; omega⟩]
      simp only [cond_false]
      rw [gd_in g1, gd_in g2, gd_in (by omega), e1, e2]
    · rw [gd_in g1, gd_in g2, gd_in (by omega), gd_in ⟨g4.1, by rw [isD_length]; omega⟩, gd_in ⟨g4.2.1, by rw [isD_length]; omega⟩]
      simp only [cond_true]
      rw [gd_in ⟨g4.2.2, by rw [valsD_len]⟩, gd_in g1, gd_in g2, gd_in (by omega), e1, e2, e3]
  have hjk : j < k := by omega
  have hloc : locsOK N (rowW Fb vs 0 xC) := rowW_loc xC 0 (by have := hFt (Fb + 3 * k - 1) (.inr ⟨by omega, by omega⟩); omega)
  have hne : ∀ t, t < 3 * k → iC ≠ Fb + t := fun t ht e => iF ⟨by omega, by omega⟩
  have hne1 : ∀ t, t < 3 * k → id1 ≠ Fb + t := fun t ht e => hnF (.inr ⟨by omega, by omega⟩)
  refine (f35_calls Hraw N hp hid1 ho1 (hFt iC (.inl rfl)) hC (hFt (Fb + 3 * j) (.inr ⟨by omega, by omega⟩)) a (hFt (Fb + 3 * j + 1) (.inr ⟨by omega, by omega⟩)) b (hFt (Fb + 3 * j + 2) (.inr ⟨by omega, by omega⟩)) e
    (fun e => hnF (.inl e)) (hne1 (3 * j) (by omega)) (hne1 (3 * j + 1) (by omega)) (hne1 (3 * j + 2) (by omega)) (hne (3 * j) (by omega)) (hne (3 * j + 1) (by omega)) (hne (3 * j + 2) (by omega)) (by omega) (by omega) (by omega) ?_ ?_ ?_).mono ?_
  · rw [hz, rowW_len]; simp only [Int.toNat_natCast]; omega
  · rw [hz]; have := rowW_at (F := Fb) (vs := vs) xC 0 j hcj; simpa using this
  · intro cs hcs; exact locsOK_app (locsOK_app (locsOK_take _ hloc) hcs) (locsOK_drop _ hloc)
  · rintro r' hp' ⟨u3, u4, u5, rfl, rfl⟩
    rw [hz]
    simp only [Int.toNat_natCast]
    let vs' : Nat → Nat := fun t => if t = 3 * j then u3 else if t = 3 * j + 1 then u4 else if t = 3 * j + 2 then u5 else vs t
    have v3 : vs' (3 * j) = u3 := by simp [vs']
    have v4 : vs' (3 * j + 1) = u4 := by simp [vs']
    have v5 : vs' (3 * j + 2) = u5 := by simp [vs']
    have vo : ∀ t, t ≠ 3 * j → t ≠ 3 * j + 1 → t ≠ 3 * j + 2 → vs' t = vs t := fun t a b c => by simp [vs', a, b, c]
    refine ⟨trivial, ⟨by simp [len], iF, vs', ?_, fun i ci hi => ?_⟩, fun id nf => ?_⟩
    · have n1 := hne (3 * j) (by omega)
      have n2 := hne (3 * j + 1) (by omega)
      have n3 := hne (3 * j + 2) (by omega)
      have := rowW_set (F := Fb) (vs := vs) (vs' := vs') (c' := ⟨c.r ++ [x2], c.d ++ [x3], bif x6 then c.v ++ [(x4, x5)] else c.v⟩) xC 0 j hj (by simpa using vo)
      simp only [Nat.zero_add, v3, v4, v5, List.length_append, List.length_singleton] at this
      rw [upd_ne _ _ (by omega), upd_ne _ _ (by omega), upd_ne _ _ (by omega), upd_eq, ← this]
      congr 5
      cases x6 <;> simp
    · by_cases hij : i = j
      · subst hij
        rw [List.getElem?_set_self hj] at hi
        simp only [Option.some.injEq] at hi
        subst hi
        rw [v3, v4, v5]
        refine ⟨?_, ?_, ?_⟩
        · rw [upd_ne _ _ (by omega), upd_ne _ _ (by omega), upd_eq]
        · rw [upd_ne _ _ (by omega), upd_eq]
        · rw [upd_eq]
      · rw [List.getElem?_set_ne (Ne.symm hij)] at hi
        have hik : i < xC.length := (List.getElem?_eq_some_iff.1 hi).1
        obtain ⟨a', b', e'⟩ := hcols i ci hi
        have m1 := hne (3 * i) (by omega)
        have m2 := hne (3 * i + 1) (by omega)
        have m3 := hne (3 * i + 2) (by omega)
        rw [vo _ (by omega) (by omega) (by omega), vo _ (by omega) (by omega) (by omega), vo _ (by omega) (by omega) (by omega)]
        refine ⟨?_, ?_, ?_⟩
        · rw [upd_ne _ _ (by omega), upd_ne _ _ (by omega), upd_ne _ _ (by omega), upd_ne _ _ (by omega)]; exact a'
        · rw [upd_ne _ _ (by omega), upd_ne _ _ (by omega), upd_ne _ _ (by omega), upd_ne _ _ (by omega)]; exact b'
        · rw [upd_ne _ _ (by omega), upd_ne _ _ (by omega), upd_ne _ _ (by omega), upd_ne _ _ (by omega)]; exact e'
    · have q : ∀ t, t < 3 * k → id ≠ Fb + t := fun t ht e => nf (.inr ⟨by omega, by omega⟩)
      have q0 : id ≠ iC := fun e => nf (.inl e)
      have q1 := q (3 * j) (by omega)
      have q2 := q (3 * j + 1) (by omega)
      have q3 := q (3 * j + 2) (by omega)
      rw [upd_ne _ _ (by omega), upd_ne _ _ (by omega), upd_ne _ _ (by omega), upd_ne _ _ (by omega)]

def F36_K2 (lo1 : Int → List Col → Option (List Col)) (x25 : Int) (x38 : List Col) : Option (List Col) :=
  lo1 (IntKind.wrap .i64 (x25 + (1 : Int))) x38

def J36_2 (C : Ctx) (N : Nat) (hp : HP) (id1 w1 : Nat) (iC vC Fb k : Nat) (lo1 : Int → List Col → Option (List Col)) (x25 : Int) (x1 : Int) (x2 : Int) (x3 : Int) (x4 : PD) (x5 : PD) (x6 : PD) (x7 : PD) (rr : List Col) (s : ASt) : Prop :=
  ∃ (hpx : HP) (x38 : List Col), Gh C s ⟨envL [(0, (PV.ptr id1 w1 0)), (1, (PV.d true (.int .i64 x1))), (2, (PV.d true (.int .i64 x2))), (3, (PV.d true (.int .i64 x3))), (8, (PV.d true (.int .i64 x25)))], hpL N hpx []⟩ ∧ (∀ id, id < N → ¬ FootW iC Fb k id → hpx id = hp id) ∧ WkF hpx iC vC Fb k x38 ∧ F36_K2 lo1 x25 x38 = some rr

def F36_L1 (x4 : PD) (x5 : PD) (x1 : Int) (self : Int → Int → Int → PD → PD → PD → PD → (List Col) → Option (List Col)) (x2 : Int) (x3 : Int) (x6 : PD) (x7 : PD) : Nat → Int → List Col → Option (List Col)
  | 0, _, _ => none
  | m1 + 1, x25, x26 =>
    gd (isSlD x4 = true) <|
    bif (decide (x25 < (lenN x4 : Int))) then
      gd (idxOK 1 x5 x25) <|
      gd ((1 ≤ (((cellsD x5).drop ((x25).toNat * 1))).length) ∧ (isI .i64 ((((cellsD x5).drop ((x25).toNat * 1))).getD 0 .nil) = true)) <|
      bif ((intD ((((cellsD x5).drop ((x25).toNat * 1))).getD 0 .nil)) == x1) then
        bd (self x25 x2 x3 x4 x5 x6 x7 x26) fun x49 =>
        F36_K2 (F36_L1 x4 x5 x1 self x2 x3 x6 x7 m1) x25 x49
      else
        F36_K2 (F36_L1 x4 x5 x1 self x2 x3 x6 x7 m1) x25 x26
    else
      some x26

def J36_1 (C : Ctx) (N : Nat) (hp : HP) (id1 w1 : Nat) (iC vC Fb k : Nat) (x4 : PD) (x5 : PD) (x1 : Int) (self : Int → Int → Int → PD → PD → PD → PD → (List Col) → Option (List Col)) (x2 : Int) (x3 : Int) (x6 : PD) (x7 : PD) (rr : List Col) (mm : Nat) (s : ASt) : Prop :=
  ∃ (hpx : HP) (x25 : Int) (x26 : List Col), Gh C s ⟨envL [(0, (PV.ptr id1 w1 0)), (1, (PV.d true (.int .i64 x1))), (2, (PV.d true (.int .i64 x2))), (3, (PV.d true (.int .i64 x3))), (8, (PV.d true (.int .i64 x25)))], hpL N hpx []⟩ ∧ (∀ id, id < N → ¬ FootW iC Fb k id → hpx id = hp id) ∧ WkF hpx iC vC Fb k x26 ∧ F36_L1 x4 x5 x1 self x2 x3 x6 x7 mm x25 x26 = some rr

def F36 : Nat → Int → Int → Int → PD → PD → PD → PD → (List Col) → Option (List Col)
  | 0, _, _, _, _, _, _, _, _ => none
  | n + 1, x1, x2, x3, x4, x5, x6, x7, x8 =>
    gd (idxOK 4 x4 x1) <|
    gd (2 ≤ (((cellsD x4).drop ((x1).toNat * 4))).length) <|
    gd ((1 ≤ (((((cellsD x4).drop ((x1).toNat * 4))).drop 2)).length) ∧ (isI .i64 ((((((cellsD x4).drop ((x1).toNat * 4))).drop 2)).getD 0 .nil) = true)) <|
    bif ((intD ((((((cellsD x4).drop ((x1).toNat * 4))).drop 2)).getD 0 .nil)) != (0 : Int)) then
      bd (F35w n x1 x2 x3 (0 : Int) ([] : List UInt8) false x4 x5 x6 x7 x8) fun x18 =>
      some x18
    else
      F36_L1 x4 x5 x1 (F36 n) x2 x3 x6 x7 n (IntKind.wrap .i64 (x1 + (1 : Int))) x8

set_option maxHeartbeats 4000000 in
theorem f36_calls : ∀ {n : Nat} {x1 : Int} {x2 : Int} {x3 : Int} {x4 : PD} {x5 : PD} {x6 : PD} {x7 : PD} {x8 : List Col} {r : List Col} (H : F36 n x1 x2 x3 x4 x5 x6 x7 x8 = some r) (N : Nat) (hp : HP) {iC vC Fb k : Nat} {id1 w1 : Nat} (hid1 : id1 < N) (ho1 : hp id1 = (w1, some (.cells 72 [(PV.d true x4), (PV.d true x5), (PV.d true x6), (PV.d true x7), (PV.own iC vC 0 k)]))) (hW : WkF hp iC vC Fb k x8) (hFt : ∀ id, FootW iC Fb k id → id < N) (hnF : ¬ FootW iC Fb k id1), ACalls Try.prog 36 N [(PV.ptr id1 w1 0), (PV.d true (.int .i64 x1)), (PV.d true (.int .i64 x2)), (PV.d true (.int .i64 x3))] hp fun r' hp' => r' = (.d true (.tup [])) ∧ WkF hp' iC vC Fb k r ∧ ∀ id, ¬ FootW iC Fb k id → hp' id = hp id := by
  intro n
  induction n with
  | zero => intro x1 x2 x3 x4 x5 x6 x7 x8 r H; cases H
  | succ n ih =>
    intro x1 x2 x3 x4 x5 x6 x7 x8 r H N hp iC vC Fb k id1 w1 hid1 ho1 hW hFt hnF
    rw [F36] at H
    refine acalls_body Try.func36 rfl rfl Try.ntmps36 (by simp) fun X hX => ?_
    refine awp_start (l := [(0, (PV.ptr id1 w1 0)), (1, (PV.d true (.int .i64 x1))), (2, (PV.d true (.int .i64 x2))), (3, (PV.d true (.int .i64 x3)))]) (N := N) ⟨rfl, rfl, rfl, rfl, trivial⟩ ?_
    have hlow0 : ∀ id, id < N → ¬ FootW iC Fb k id → hp id = hp id := fun _ _ _ => rfl
    refine awp_hide fun y9 hy9 => ?_
    refine awp_regionL fun y10 hy10 => ?_
    refine goL_s (st_mv (v := (PV.ptr id1 w1 0)) rfl) rfl ?_
    refine goL_s (st_nil_p rfl (hpL_low' hid1 ((hlow0 _ hid1 hnF).trans ho1))) rfl ?_
    refine goL_s (st_fa_p (o' := 0) fi_72_0 (by decide) rfl (hpL_low' hid1 ((hlow0 _ hid1 hnF).trans ho1)) rfl) rfl ?_
    refine goL_s (st_ld_p (c := (PV.d true x4)) ty_26 rfl (hpL_low' hid1 ((hlow0 _ hid1 hnF).trans ho1)) rfl) rfl ?_
    refine goL_s (st_mv (v := (PV.d true (.int .i64 x1))) rfl) rfl ?_
    obtain ⟨g11, H⟩ := gd_out H
    refine goL_s (st_ia_d el_26 sz_61 (by decide) (y := x4) rfl rfl g11) rfl ?_
    obtain ⟨g12, H⟩ := gd_out H
    refine goL_s (st_fa_lp fi_61_2 (by decide) rfl g12) rfl ?_
    obtain ⟨⟨g13, g14⟩, H⟩ := gd_out H
    refine goL_s (st_ld_lp ty_3 rfl g13 (cI g14)) rfl ?_
    refine goL_s (st_bin rfl rfl rfl rfl trivial) rfl ?_
    subst hy10
    refine awp_ifL (b := ((intD ((((((cellsD x4).drop ((x1).toNat * 4))).drop 2)).getD 0 .nil)) != (0 : Int))) rfl (fun y16 hy16 hb15 => ?_) (fun y16 hy16 hb15 => ?_)
    · replace H := cond_t H hb15
      subst hy16
      refine awp_regionL fun y17 hy17 => ?_
      refine goL_s (st_mv (v := (PV.ptr id1 w1 0)) rfl) rfl ?_
      refine goL_s (st_mv (v := (PV.d true (.int .i64 x1))) rfl) rfl ?_
      refine goL_s (st_mv (v := (PV.d true (.int .i64 x2))) rfl) rfl ?_
      refine goL_s (st_mv (v := (PV.d true (.int .i64 x3))) rfl) rfl ?_
      refine goL_s (st_buildR (parts := []) (cells := [(PV.d true (.int .i64 (0 : Int))), (PV.d true (.str ([] : List UInt8)))]) ze_51 sr_51 rfl FillR.nil) rfl ?_
      obtain ⟨x18, c19, H⟩ := bd_out H
      refine goL_ch (W := fun h => WkF h iC vC Fb k x18) (Foot := FootW iC Fb k) (args' := [(PV.ptr id1 w1 0), (PV.d true (.int .i64 x1)), (PV.d true (.int .i64 x2)), (PV.d true (.int .i64 x3)), (PV.agg [(PV.d true (.int .i64 (0 : Int))), (PV.d true (.str ([] : List UInt8)))]), (PV.d true (.bool false))]) (r := (PV.d true (.tup []))) (fun h h' e q => q.congr e) hFt rfl rfl ⟨Wk.refl, ⟨Wk.refl, ⟨Wk.refl, ⟨Wk.refl, ⟨Wk.refl, ⟨Wk.refl, trivial⟩⟩⟩⟩⟩⟩ enter_35 rfl (f35w_calls c19 (N + 49) _ (Nat.lt_of_lt_of_le hid1 (Nat.le_add_right _ _)) (hpL_low' hid1 ((hlow0 _ hid1 hnF).trans ho1)) (hW.low hFt) (fun id h => Nat.lt_of_lt_of_le (hFt id h) (Nat.le_add_right _ _)) hnF) fun hpx20 hW21 hfr22 => ?_
      have hlow23 : ∀ id, id < N → ¬ FootW iC Fb k id → hpx20 id = hp id := fun id hid nf => (hfr22 id nf).trans (hlow0 id hid nf)
      subst hy17
      refine awp_ret ?_
      refine thenA_r ?_
      obtain rfl := Option.some.inj H
      exact ret0_hid hW21 hFt hlow23 (.inr rfl)
    · replace H := cond_f H hb15
      subst hy16
      refine awp_skip ?_
      refine thenA_n ?_
      subst hy9
      refine awp_regionL fun y24 hy24 => ?_
      refine goL_s (st_mv (v := (PV.d true (.int .i64 x1))) rfl) rfl ?_
      refine goL_s (st_bin rfl rfl rfl rfl trivial) rfl ?_
      refine goL_s (st_as (v := (PV.d true (.int .i64 (IntKind.wrap .i64 (x1 + (1 : Int)))))) rfl) rfl ?_
      subst hy24
      refine awp_block ?_
      refine awp_loop (J36_1 (mkC 49 N Try.prog hp X) N hp id1 w1 iC vC Fb k x4 x5 x1 (F36 n) x2 x3 x6 x7 r) n ?_ ?_
      · unfold J36_1
        exact ⟨_, (IntKind.wrap .i64 (x1 + (1 : Int))), x8, Gh.join ⟨rfl, rfl, rfl, rfl, rfl, trivial⟩ trivial, fun id hid nf => (hpL_low hid).trans (hlow0 id hid nf), hW.low hFt, H⟩
      · intro m1 s hJ
        unfold J36_1 at hJ
        obtain ⟨hpx29, x25, x26, hG31, hlow30, hW32, H⟩ := hJ
        cases m1 with
        | zero => cases H
        | succ m1 =>
          rw [F36_L1] at H
          refine awp_gh hG31 ?_
          clear hG31
          refine awp_hide fun y33 hy33 => ?_
          refine awp_regionL fun y34 hy34 => ?_
          refine goL_s (st_mv (v := (PV.d true (.int .i64 x25))) rfl) rfl ?_
          refine goL_s (st_mv (v := (PV.ptr id1 w1 0)) rfl) rfl ?_
          refine goL_s (st_nil_p rfl (hpL_low' hid1 ((hlow30 _ hid1 hnF).trans ho1))) rfl ?_
          refine goL_s (st_fa_p (o' := 0) fi_72_0 (by decide) rfl (hpL_low' hid1 ((hlow30 _ hid1 hnF).trans ho1)) rfl) rfl ?_
          refine goL_s (st_ld_p (c := (PV.d true x4)) ty_26 rfl (hpL_low' hid1 ((hlow30 _ hid1 hnF).trans ho1)) rfl) rfl ?_
          obtain ⟨g35, H⟩ := gd_out H
          refine goL_s (st_len_d (id := 0) sl_26 rfl g35) rfl ?_
          refine goL_s (st_bin rfl rfl rfl rfl trivial) rfl ?_
          subst hy34
          refine awp_ifL (b := (decide (x25 < (lenN x4 : Int)))) rfl (fun y37 hy37 hb36 => ?_) (fun y37 hy37 hb36 => ?_)
          · replace H := cond_t H hb36
            subst hy37
            refine awp_skip ?_
            refine thenA_n ?_
            subst hy33
            refine awp_cut (J36_2 (mkC 49 N Try.prog hp X) N hp id1 w1 iC vC Fb k (F36_L1 x4 x5 x1 (F36 n) x2 x3 x6 x7 m1) x25 x1 x2 x3 x4 x5 x6 x7 r) ?_ ?_
            · refine awp_block ?_
              refine awp_regionL fun y43 hy43 => ?_
              refine goL_s (st_mv (v := (PV.ptr id1 w1 0)) rfl) rfl ?_
              refine goL_s (st_nil_p rfl (hpL_low' hid1 ((hlow30 _ hid1 hnF).trans ho1))) rfl ?_
              refine goL_s (st_fa_p (o' := 1) fi_72_1 (by decide) rfl (hpL_low' hid1 ((hlow30 _ hid1 hnF).trans ho1)) rfl) rfl ?_
              refine goL_s (st_ld_p (c := (PV.d true x5)) ty_22 rfl (hpL_low' hid1 ((hlow30 _ hid1 hnF).trans ho1)) rfl) rfl ?_
              refine goL_s (st_mv (v := (PV.d true (.int .i64 x25))) rfl) rfl ?_
              obtain ⟨g44, H⟩ := gd_out H
              refine goL_s (st_ia_d el_22 sz_3 (by decide) (y := x5) rfl rfl g44) rfl ?_
              obtain ⟨⟨g45, g46⟩, H⟩ := gd_out H
              refine goL_s (st_ld_lp ty_3 rfl g45 (cI g46)) rfl ?_
              refine goL_s (st_mv (v := (PV.d true (.int .i64 x1))) rfl) rfl ?_
              refine goL_s (st_bin rfl rfl rfl rfl trivial) rfl ?_
              subst hy43
              refine awp_ifL (b := ((intD ((((cellsD x5).drop ((x25).toNat * 1))).getD 0 .nil)) == x1)) rfl (fun y48 hy48 hb47 => ?_) (fun y48 hy48 hb47 => ?_)
              · replace H := cond_t H hb47
                subst hy48
                refine awp_regionL1 ?_
                refine goL_s (st_mv (v := (PV.ptr id1 w1 0)) rfl) rfl ?_
                refine goL_s (st_mv (v := (PV.d true (.int .i64 x25))) rfl) rfl ?_
                refine goL_s (st_mv (v := (PV.d true (.int .i64 x2))) rfl) rfl ?_
                refine goL_s (st_mv (v := (PV.d true (.int .i64 x3))) rfl) rfl ?_
                obtain ⟨x49, c50, H⟩ := bd_out H
                refine goL_ch (W := fun h => WkF h iC vC Fb k x49) (Foot := FootW iC Fb k) (args' := [(PV.ptr id1 w1 0), (PV.d true (.int .i64 x25)), (PV.d true (.int .i64 x2)), (PV.d true (.int .i64 x3))]) (r := (PV.d true (.tup []))) (fun h h' e q => q.congr e) hFt rfl rfl ⟨Wk.refl, ⟨Wk.refl, ⟨Wk.refl, ⟨Wk.refl, trivial⟩⟩⟩⟩ enter_36 rfl (ih c50 (N + 49) _ (Nat.lt_of_lt_of_le hid1 (Nat.le_add_right _ _)) (hpL_low' hid1 ((hlow30 _ hid1 hnF).trans ho1)) (hW32.low hFt) (fun id h => Nat.lt_of_lt_of_le (hFt id h) (Nat.le_add_right _ _)) hnF) fun hpx51 hW52 hfr53 => ?_
                have hlow54 : ∀ id, id < N → ¬ FootW iC Fb k id → hpx51 id = hp id := fun id hid nf => (hfr53 id nf).trans (hlow30 id hid nf)
                refine blockA_n ?_
                refine thenA_n ?_
                unfold J36_2
                exact ⟨_, x49, Gh.join ⟨rfl, rfl, rfl, rfl, rfl, trivial⟩ trivial, fun id hid nf => (hpL_low hid).trans (hlow54 id hid nf), hW52.low hFt, H⟩
              · replace H := cond_f H hb47
                subst hy48
                refine awp_skip ?_
                refine blockA_n ?_
                refine thenA_n ?_
                unfold J36_2
                exact ⟨_, x26, Gh.join ⟨rfl, rfl, rfl, rfl, rfl, trivial⟩ trivial, fun id hid nf => (hpL_low hid).trans (hlow30 id hid nf), hW32.low hFt, H⟩
            · intro s hJ
              unfold J36_2 at hJ
              obtain ⟨hpx39, x38, hG41, hlow40, hW42, H⟩ := hJ
              unfold F36_K2 at H
              refine awp_gh hG41 ?_
              clear hG41
              refine awp_regionL1 ?_
              refine goL_s (st_mv (v := (PV.d true (.int .i64 x25))) rfl) rfl ?_
              refine goL_s (st_bin rfl rfl rfl rfl trivial) rfl ?_
              refine goL_s (st_as (v := (PV.d true (.int .i64 (IntKind.wrap .i64 (x25 + (1 : Int)))))) rfl) rfl ?_
              refine thenA_n ?_
              refine ⟨m1, Nat.lt_succ_self _, ?_⟩
              unfold J36_1
              exact ⟨_, (IntKind.wrap .i64 (x25 + (1 : Int))), x38, Gh.join ⟨rfl, rfl, rfl, rfl, rfl, trivial⟩ trivial, fun id hid nf => (hpL_low hid).trans (hlow40 id hid nf), hW42.low hFt, H⟩
          · replace H := cond_f H hb36
            subst hy37
            refine awp_exit ?_
            refine thenA_e ?_
            refine thenA_e ?_
            refine blockA_h ?_
            obtain rfl := Option.some.inj H
            exact ret0_hid hW32 hFt hlow30 (.inl rfl)

def F18_K2 (lo1 : Int → Int → List Col → Option (List Col)) (x34 : Int) (x50 : Int) (x52 : List Col) : Option (List Col) :=
  lo1 x50 (IntKind.wrap .i64 (x34 + (1 : Int))) x52

def J18_2 (C : Ctx) (N : Nat) (hp : HP) (id1 w1 : Nat) (iC vC Fb k : Nat) (lo1 : Int → Int → List Col → Option (List Col)) (x34 : Int) (x1 : Int) (x2 : Int) (x3 : Int) (x4 : Int) (x5 : List UInt8) (x6 : PD) (x7 : PD) (x8 : PD) (x9 : PD) (x10 : PD) (rr : List Col) (s : ASt) : Prop :=
  ∃ (hpx : HP) (v51 : Nat) (x50 : Int) (x52 : List Col), Gh C s ⟨envL [(0, (PV.ptr id1 w1 0)), (1, (PV.d true (.int .i64 x1))), (2, (PV.d true (.int .i64 x2))), (3, (PV.d true (.int .i64 x3))), (9, (PV.ptr (N + 9) v51 0)), (10, (PV.d true (.int .i64 x50))), (11, (PV.d true (.int .i64 x34)))], hpL N hpx [(9, (v51, some (.cells 65 [(PV.d true (.int .i64 x4)), (PV.d true (.str x5)), (PV.d true x6)])))]⟩ ∧ (∀ id, id < N → ¬ FootW iC Fb k id → hpx id = hp id) ∧ WkF hpx iC vC Fb k x52 ∧ F18_K2 lo1 x34 x50 x52 = some rr

def F18_K5 (lo4 : Int → List Col → Option (List Col)) (x89 : Int) (x105 : List Col) : Option (List Col) :=
  lo4 (IntKind.wrap .i64 (x89 + (1 : Int))) x105

def J18_5 (C : Ctx) (N : Nat) (hp : HP) (id1 w1 : Nat) (iC vC Fb k : Nat) (lo4 : Int → List Col → Option (List Col)) (x89 : Int) (x1 : Int) (x2 : Int) (x3 : Int) (x33 : Int) (x34 : Int) (x6 : PD) (x81 : Int) (x4 : Int) (x5 : List UInt8) (x7 : PD) (x8 : PD) (x9 : PD) (x10 : PD) (rr : List Col) (s : ASt) : Prop :=
  ∃ (hpx : HP) (v104 : Nat) (x105 : List Col), Gh C s ⟨envL [(0, (PV.ptr id1 w1 0)), (1, (PV.d true (.int .i64 x1))), (2, (PV.d true (.int .i64 x2))), (3, (PV.d true (.int .i64 x3))), (9, (PV.ptr (N + 9) v104 0)), (10, (PV.d true (.int .i64 (IntKind.wrap .i64 (x33 + (1 : Int)))))), (11, (PV.d true (.int .i64 x34))), (12, (PV.d true ((((cellsD x6).drop ((x33).toNat * 1))).getD 0 .nil))), (13, (PV.d true (.int .i64 x81))), (14, (PV.d true (.int .i64 x89)))], hpL N hpx [(9, (v104, some (.cells 65 [(PV.d true (.int .i64 x4)), (PV.d true (.str x5)), (PV.d true x6)])))]⟩ ∧ (∀ id, id < N → ¬ FootW iC Fb k id → hpx id = hp id) ∧ WkF hpx iC vC Fb k x105 ∧ F18_K5 lo4 x89 x105 = some rr

def F18_L4 (x6 : PD) (x33 : Int) (self : Int → Int → Int → Int → (List UInt8) → PD → PD → PD → PD → PD → (List Col) → Option (List Col)) (x34 : Int) (x2 : Int) (x3 : Int) (x81 : Int) (x7 : PD) (x8 : PD) (x9 : PD) (x10 : PD) (lo1 : Int → Int → List Col → Option (List Col)) : Nat → Int → List Col → Option (List Col)
  | 0, _, _ => none
  | m4 + 1, x89, x91 =>
    gd (isSlD ((((cellsD x6).drop ((x33).toNat * 1))).getD 0 .nil) = true) <|
    bif (decide (x89 < (lenN ((((cellsD x6).drop ((x33).toNat * 1))).getD 0 .nil) : Int))) then
      bif (x89 == (0 : Int)) then
        gd (idxOK 3 ((((cellsD x6).drop ((x33).toNat * 1))).getD 0 .nil) x89) <|
        gd (3 ≤ (((cellsD ((((cellsD x6).drop ((x33).toNat * 1))).getD 0 .nil)).drop ((x89).toNat * 3))).length) <|
        gd ((3 ≤ (((cellsD ((((cellsD x6).drop ((x33).toNat * 1))).getD 0 .nil)).drop ((x89).toNat * 3))).length) ∧ (isI .i64 ((((cellsD ((((cellsD x6).drop ((x33).toNat * 1))).getD 0 .nil)).drop ((x89).toNat * 3))).getD 0 .nil) = true) ∧ (isS ((((cellsD ((((cellsD x6).drop ((x33).toNat * 1))).getD 0 .nil)).drop ((x89).toNat * 3))).getD 1 .nil) = true) ∧ (isSlD ((((cellsD ((((cellsD x6).drop ((x33).toNat * 1))).getD 0 .nil)).drop ((x89).toNat * 3))).getD 2 .nil) = true)) <|
        bd (self x34 x2 (IntKind.wrap .i64 (x3 + x81)) (intD ((((cellsD ((((cellsD x6).drop ((x33).toNat * 1))).getD 0 .nil)).drop ((x89).toNat * 3))).getD 0 .nil)) (strD ((((cellsD ((((cellsD x6).drop ((x33).toNat * 1))).getD 0 .nil)).drop ((x89).toNat * 3))).getD 1 .nil)) ((((cellsD ((((cellsD x6).drop ((x33).toNat * 1))).getD 0 .nil)).drop ((x89).toNat * 3))).getD 2 .nil) x7 x8 x9 x10 x91) fun x119 =>
        F18_K5 (F18_L4 x6 x33 self x34 x2 x3 x81 x7 x8 x9 x10 lo1 m4) x89 x119
      else
        gd (idxOK 1 x10 x34) <|
        gd ((1 ≤ (((cellsD x10).drop ((x34).toNat * 1))).length) ∧ (isI .i64 ((((cellsD x10).drop ((x34).toNat * 1))).getD 0 .nil) = true)) <|
        gd (idxOK 3 ((((cellsD x6).drop ((x33).toNat * 1))).getD 0 .nil) x89) <|
        gd (3 ≤ (((cellsD ((((cellsD x6).drop ((x33).toNat * 1))).getD 0 .nil)).drop ((x89).toNat * 3))).length) <|
        gd ((3 ≤ (((cellsD ((((cellsD x6).drop ((x33).toNat * 1))).getD 0 .nil)).drop ((x89).toNat * 3))).length) ∧ (isI .i64 ((((cellsD ((((cellsD x6).drop ((x33).toNat * 1))).getD 0 .nil)).drop ((x89).toNat * 3))).getD 0 .nil) = true) ∧ (isS ((((cellsD ((((cellsD x6).drop ((x33).toNat * 1))).getD 0 .nil)).drop ((x89).toNat * 3))).getD 1 .nil) = true) ∧ (isSlD ((((cellsD ((((cellsD x6).drop ((x33).toNat * 1))).getD 0 .nil)).drop ((x89).toNat * 3))).getD 2 .nil) = true)) <|
        bd (self x34 (intD ((((cellsD x10).drop ((x34).toNat * 1))).getD 0 .nil)) (IntKind.wrap .i64 (x3 + x81)) (intD ((((cellsD ((((cellsD x6).drop ((x33).toNat * 1))).getD 0 .nil)).drop ((x89).toNat * 3))).getD 0 .nil)) (strD ((((cellsD ((((cellsD x6).drop ((x33).toNat * 1))).getD 0 .nil)).drop ((x89).toNat * 3))).getD 1 .nil)) ((((cellsD ((((cellsD x6).drop ((x33).toNat * 1))).getD 0 .nil)).drop ((x89).toNat * 3))).getD 2 .nil) x7 x8 x9 x10 x91) fun x135 =>
        F18_K5 (F18_L4 x6 x33 self x34 x2 x3 x81 x7 x8 x9 x10 lo1 m4) x89 x135
    else
      F18_K2 lo1 x34 (IntKind.wrap .i64 (x33 + (1 : Int))) x91

def J18_4 (C : Ctx) (N : Nat) (hp : HP) (id1 w1 : Nat) (iC vC Fb k : Nat) (x6 : PD) (x33 : Int) (self : Int → Int → Int → Int → (List UInt8) → PD → PD → PD → PD → PD → (List Col) → Option (List Col)) (x34 : Int) (x2 : Int) (x3 : Int) (x81 : Int) (x7 : PD) (x8 : PD) (x9 : PD) (x10 : PD) (lo1 : Int → Int → List Col → Option (List Col)) (x1 : Int) (x4 : Int) (x5 : List UInt8) (rr : List Col) (mm : Nat) (s : ASt) : Prop :=
  ∃ (hpx : HP) (v90 : Nat) (x89 : Int) (x91 : List Col), Gh C s ⟨envL [(0, (PV.ptr id1 w1 0)), (1, (PV.d true (.int .i64 x1))), (2, (PV.d true (.int .i64 x2))), (3, (PV.d true (.int .i64 x3))), (9, (PV.ptr (N + 9) v90 0)), (10, (PV.d true (.int .i64 (IntKind.wrap .i64 (x33 + (1 : Int)))))), (11, (PV.d true (.int .i64 x34))), (12, (PV.d true ((((cellsD x6).drop ((x33).toNat * 1))).getD 0 .nil))), (13, (PV.d true (.int .i64 x81))), (14, (PV.d true (.int .i64 x89)))], hpL N hpx [(9, (v90, some (.cells 65 [(PV.d true (.int .i64 x4)), (PV.d true (.str x5)), (PV.d true x6)])))]⟩ ∧ (∀ id, id < N → ¬ FootW iC Fb k id → hpx id = hp id) ∧ WkF hpx iC vC Fb k x91 ∧ F18_L4 x6 x33 self x34 x2 x3 x81 x7 x8 x9 x10 lo1 mm x89 x91 = some rr

def F18_K3 (x6 : PD) (x33 : Int) (self : Int → Int → Int → Int → (List UInt8) → PD → PD → PD → PD → PD → (List Col) → Option (List Col)) (x34 : Int) (x2 : Int) (x3 : Int) (x7 : PD) (x8 : PD) (x9 : PD) (x10 : PD) (lo1 : Int → Int → List Col → Option (List Col)) (n : Nat) (x36 : List Col) (x81 : Int) : Option (List Col) :=
  F18_L4 x6 x33 self x34 x2 x3 x81 x7 x8 x9 x10 lo1 n (0 : Int) x36

def J18_3 (C : Ctx) (N : Nat) (hp : HP) (id1 w1 : Nat) (iC vC Fb k : Nat) (x6 : PD) (x33 : Int) (self : Int → Int → Int → Int → (List UInt8) → PD → PD → PD → PD → PD → (List Col) → Option (List Col)) (x34 : Int) (x2 : Int) (x3 : Int) (x7 : PD) (x8 : PD) (x9 : PD) (x10 : PD) (lo1 : Int → Int → List Col → Option (List Col)) (n : Nat) (x36 : List Col) (x1 : Int) (x4 : Int) (x5 : List UInt8) (rr : List Col) (s : ASt) : Prop :=
  ∃ (hpx : HP) (v82 : Nat) (x81 : Int), Gh C s ⟨envL [(0, (PV.ptr id1 w1 0)), (1, (PV.d true (.int .i64 x1))), (2, (PV.d true (.int .i64 x2))), (3, (PV.d true (.int .i64 x3))), (9, (PV.ptr (N + 9) v82 0)), (10, (PV.d true (.int .i64 (IntKind.wrap .i64 (x33 + (1 : Int)))))), (11, (PV.d true (.int .i64 x34))), (12, (PV.d true ((((cellsD x6).drop ((x33).toNat * 1))).getD 0 .nil))), (13, (PV.d true (.int .i64 x81)))], hpL N hpx [(9, (v82, some (.cells 65 [(PV.d true (.int .i64 x4)), (PV.d true (.str x5)), (PV.d true x6)])))]⟩ ∧ (∀ id, id < N → ¬ FootW iC Fb k id → hpx id = hp id) ∧ WkF hpx iC vC Fb k x36 ∧ F18_K3 x6 x33 self x34 x2 x3 x7 x8 x9 x10 lo1 n x36 x81 = some rr

def F18_L1 (x7 : PD) (x8 : PD) (x1 : Int) (x6 : PD) (n : Nat) (x2 : Int) (x3 : Int) (x9 : PD) (x10 : PD) (self : Int → Int → Int → Int → (List UInt8) → PD → PD → PD → PD → PD → (List Col) → Option (List Col)) : Nat → Int → Int → List Col → Option (List Col)
  | 0, _, _, _ => none
  | m1 + 1, x33, x34, x36 =>
    gd (isSlD x7 = true) <|
    bif (decide (x34 < (lenN x7 : Int))) then
      gd (idxOK 1 x8 x34) <|
      gd ((1 ≤ (((cellsD x8).drop ((x34).toNat * 1))).length) ∧ (isI .i64 ((((cellsD x8).drop ((x34).toNat * 1))).getD 0 .nil) = true)) <|
      bif ((intD ((((cellsD x8).drop ((x34).toNat * 1))).getD 0 .nil)) != x1) then
        F18_K2 (F18_L1 x7 x8 x1 x6 n x2 x3 x9 x10 self m1) x34 x33 x36
      else
        gd (idxOK 1 x6 x33) <|
        gd (1 ≤ (((cellsD x6).drop ((x33).toNat * 1))).length) <|
        gd (isSlD ((((cellsD x6).drop ((x33).toNat * 1))).getD 0 .nil) = true) <|
        bif ((lenN ((((cellsD x6).drop ((x33).toNat * 1))).getD 0 .nil) : Int) == (0 : Int)) then
          bd (F36 n x34 x2 x3 x7 x8 x9 x10 x36) fun x74 =>
          F18_K2 (F18_L1 x7 x8 x1 x6 n x2 x3 x9 x10 self m1) x34 (IntKind.wrap .i64 (x33 + (1 : Int))) x74
        else
          gd (idxOK 4 x7 x34) <|
          gd (1 ≤ (((cellsD x7).drop ((x34).toNat * 4))).length) <|
          gd ((1 ≤ (((((cellsD x7).drop ((x34).toNat * 4))).drop 1)).length) ∧ (isI .i64 ((((((cellsD x7).drop ((x34).toNat * 4))).drop 1)).getD 0 .nil) = true)) <|
          bif ((intD ((((((cellsD x7).drop ((x34).toNat * 4))).drop 1)).getD 0 .nil)) != (0 : Int)) then
            F18_K3 x6 x33 self x34 x2 x3 x7 x8 x9 x10 (F18_L1 x7 x8 x1 x6 n x2 x3 x9 x10 self m1) n x36 (1 : Int)
          else
            F18_K3 x6 x33 self x34 x2 x3 x7 x8 x9 x10 (F18_L1 x7 x8 x1 x6 n x2 x3 x9 x10 self m1) n x36 (0 : Int)
    else
      some x36

def J18_1 (C : Ctx) (N : Nat) (hp : HP) (id1 w1 : Nat) (iC vC Fb k : Nat) (x7 : PD) (x8 : PD) (x1 : Int) (x6 : PD) (n : Nat) (x2 : Int) (x3 : Int) (x9 : PD) (x10 : PD) (self : Int → Int → Int → Int → (List UInt8) → PD → PD → PD → PD → PD → (List Col) → Option (List Col)) (x4 : Int) (x5 : List UInt8) (rr : List Col) (mm : Nat) (s : ASt) : Prop :=
  ∃ (hpx : HP) (v35 : Nat) (x33 : Int) (x34 : Int) (x36 : List Col), Gh C s ⟨envL [(0, (PV.ptr id1 w1 0)), (1, (PV.d true (.int .i64 x1))), (2, (PV.d true (.int .i64 x2))), (3, (PV.d true (.int .i64 x3))), (9, (PV.ptr (N + 9) v35 0)), (10, (PV.d true (.int .i64 x33))), (11, (PV.d true (.int .i64 x34)))], hpL N hpx [(9, (v35, some (.cells 65 [(PV.d true (.int .i64 x4)), (PV.d true (.str x5)), (PV.d true x6)])))]⟩ ∧ (∀ id, id < N → ¬ FootW iC Fb k id → hpx id = hp id) ∧ WkF hpx iC vC Fb k x36 ∧ F18_L1 x7 x8 x1 x6 n x2 x3 x9 x10 self mm x33 x34 x36 = some rr

def F18 : Nat → Int → Int → Int → Int → (List UInt8) → PD → PD → PD → PD → PD → (List Col) → Option (List Col)
  | 0, _, _, _, _, _, _, _, _, _, _, _ => none
  | n + 1, x1, x2, x3, x4, x5, x6, x7, x8, x9, x10, x11 =>
    gd (isSlD x6 = true) <|
    gd (idxOK 4 x7 x1) <|
    gd (2 ≤ (((cellsD x7).drop ((x1).toNat * 4))).length) <|
    gd ((1 ≤ (((((cellsD x7).drop ((x1).toNat * 4))).drop 2)).length) ∧ (isI .i64 ((((((cellsD x7).drop ((x1).toNat * 4))).drop 2)).getD 0 .nil) = true)) <|
    bif ((intD ((((((cellsD x7).drop ((x1).toNat * 4))).drop 2)).getD 0 .nil)) != (0 : Int)) then
      bd (F35w n x1 x2 x3 x4 x5 true x7 x8 x9 x10 x11) fun x24 =>
      some x24
    else
      F18_L1 x7 x8 x1 x6 n x2 x3 x9 x10 (F18 n) n (0 : Int) (IntKind.wrap .i64 (x1 + (1 : Int))) x11

set_option maxHeartbeats 4000000 in
theorem f18_calls : ∀ {n : Nat} {x1 : Int} {x2 : Int} {x3 : Int} {x4 : Int} {x5 : List UInt8} {x6 : PD} {x7 : PD} {x8 : PD} {x9 : PD} {x10 : PD} {x11 : List Col} {r : List Col} (H : F18 n x1 x2 x3 x4 x5 x6 x7 x8 x9 x10 x11 = some r) (N : Nat) (hp : HP) {iC vC Fb k : Nat} {id1 w1 : Nat} (hid1 : id1 < N) (ho1 : hp id1 = (w1, some (.cells 72 [(PV.d true x7), (PV.d true x8), (PV.d true x9), (PV.d true x10), (PV.own iC vC 0 k)]))) (hW : WkF hp iC vC Fb k x11) (hFt : ∀ id, FootW iC Fb k id → id < N) (hnF : ¬ FootW iC Fb k id1), ACalls Try.prog 18 N [(PV.ptr id1 w1 0), (PV.d true (.int .i64 x1)), (PV.d true (.int .i64 x2)), (PV.d true (.int .i64 x3)), (PV.agg [(PV.d true (.int .i64 x4)), (PV.d true (.str x5)), (PV.d true x6)])] hp fun r' hp' => r' = (.d true (.tup [])) ∧ WkF hp' iC vC Fb k r ∧ ∀ id, ¬ FootW iC Fb k id → hp' id = hp id := by
  intro n
  induction n with
  | zero => intro x1 x2 x3 x4 x5 x6 x7 x8 x9 x10 x11 r H; cases H
  | succ n ih =>
    intro x1 x2 x3 x4 x5 x6 x7 x8 x9 x10 x11 r H N hp iC vC Fb k id1 w1 hid1 ho1 hW hFt hnF
    rw [F18] at H
    refine acalls_body Try.func18 rfl rfl Try.ntmps18 (by simp) fun X hX => ?_
    refine awp_start (l := [(0, (PV.ptr id1 w1 0)), (1, (PV.d true (.int .i64 x1))), (2, (PV.d true (.int .i64 x2))), (3, (PV.d true (.int .i64 x3))), (4, (PV.agg [(PV.d true (.int .i64 x4)), (PV.d true (.str x5)), (PV.d true x6)]))]) (N := N) ⟨rfl, rfl, rfl, rfl, rfl, trivial⟩ ?_
    have hlow0 : ∀ id, id < N → ¬ FootW iC Fb k id → hp id = hp id := fun _ _ _ => rfl
    refine awp_regionL fun y12 hy12 => ?_
    obtain ⟨g13, H⟩ := gd_out H
    refine goL_n (d' := 9) (st_box (v := (PV.agg [(PV.d true (.int .i64 x4)), (PV.d true (.str x5)), (PV.d true x6)])) (cs := [(PV.d true (.int .i64 x4)), (PV.d true (.str x5)), (PV.d true x6)]) rfl rfl ⟨rfl, rfl, oneSl g13, trivial⟩) rfl fun v14 => ?_
    subst hy12
    refine awp_hide fun y15 hy15 => ?_
    refine awp_regionL fun y16 hy16 => ?_
    refine goL_s (st_mv (v := (PV.ptr id1 w1 0)) rfl) rfl ?_
    refine goL_s (st_nil_p rfl (hpL_low' hid1 ((hlow0 _ hid1 hnF).trans ho1))) rfl ?_
    refine goL_s (st_fa_p (o' := 0) fi_72_0 (by decide) rfl (hpL_low' hid1 ((hlow0 _ hid1 hnF).trans ho1)) rfl) rfl ?_
    refine goL_s (st_ld_p (c := (PV.d true x7)) ty_26 rfl (hpL_low' hid1 ((hlow0 _ hid1 hnF).trans ho1)) rfl) rfl ?_
    refine goL_s (st_mv (v := (PV.d true (.int .i64 x1))) rfl) rfl ?_
    obtain ⟨g17, H⟩ := gd_out H
    refine goL_s (st_ia_d el_26 sz_61 (by decide) (y := x7) rfl rfl g17) rfl ?_
    obtain ⟨g18, H⟩ := gd_out H
    refine goL_s (st_fa_lp fi_61_2 (by decide) rfl g18) rfl ?_
    obtain ⟨⟨g19, g20⟩, H⟩ := gd_out H
    refine goL_s (st_ld_lp ty_3 rfl g19 (cI g20)) rfl ?_
    refine goL_s (st_bin rfl rfl rfl rfl trivial) rfl ?_
    subst hy16
    refine awp_ifL (b := ((intD ((((((cellsD x7).drop ((x1).toNat * 4))).drop 2)).getD 0 .nil)) != (0 : Int))) rfl (fun y22 hy22 hb21 => ?_) (fun y22 hy22 hb21 => ?_)
    · replace H := cond_t H hb21
      subst hy22
      refine awp_regionL fun y23 hy23 => ?_
      refine goL_s (st_mv (v := (PV.ptr id1 w1 0)) rfl) rfl ?_
      refine goL_s (st_mv (v := (PV.d true (.int .i64 x1))) rfl) rfl ?_
      refine goL_s (st_mv (v := (PV.d true (.int .i64 x2))) rfl) rfl ?_
      refine goL_s (st_mv (v := (PV.d true (.int .i64 x3))) rfl) rfl ?_
      refine goL_s (st_fa_p (o' := 0) fi_65_0 (by decide) rfl hpL_hit rfl) rfl ?_
      refine goL_s (st_ld_p (c := (PV.d true (.int .i64 x4))) ty_3 rfl hpL_hit rfl) rfl ?_
      refine goL_s (st_fa_p (o' := 1) fi_65_1 (by decide) rfl hpL_hit rfl) rfl ?_
      refine goL_s (st_ld_p (c := (PV.d true (.str x5))) ty_9 rfl hpL_hit rfl) rfl ?_
      refine goL_s (st_buildR (parts := [(0, (PV.d true (.int .i64 x4))), (1, (PV.d true (.str x5)))]) (cells := [(PV.d true (.int .i64 x4)), (PV.d true (.str x5))]) ze_51 sr_51 rfl (FillR.cons (cells' := [(PV.d true (.int .i64 x4)), (PV.d true (.str ([] : List UInt8)))]) rfl rfl rfl (Nat.le_of_ble_eq_true rfl) ⟨rfl, trivial⟩ rfl (FillR.cons (cells' := [(PV.d true (.int .i64 x4)), (PV.d true (.str x5))]) rfl rfl rfl (Nat.le_of_ble_eq_true rfl) ⟨rfl, trivial⟩ rfl FillR.nil))) rfl ?_
      obtain ⟨x24, c25, H⟩ := bd_out H
      refine goL_ch (W := fun h => WkF h iC vC Fb k x24) (Foot := FootW iC Fb k) (args' := [(PV.ptr id1 w1 0), (PV.d true (.int .i64 x1)), (PV.d true (.int .i64 x2)), (PV.d true (.int .i64 x3)), (PV.agg [(PV.d true (.int .i64 x4)), (PV.d true (.str x5))]), (PV.d true (.bool true))]) (r := (PV.d true (.tup []))) (fun h h' e q => q.congr e) hFt rfl rfl ⟨Wk.refl, ⟨Wk.refl, ⟨Wk.refl, ⟨Wk.refl, ⟨Wk.refl, ⟨Wk.refl, trivial⟩⟩⟩⟩⟩⟩ enter_35 rfl (f35w_calls c25 (N + 114) _ (Nat.lt_of_lt_of_le hid1 (Nat.le_add_right _ _)) (hpL_low' hid1 ((hlow0 _ hid1 hnF).trans ho1)) (hW.low hFt) (fun id h => Nat.lt_of_lt_of_le (hFt id h) (Nat.le_add_right _ _)) hnF) fun hpx26 hW27 hfr28 => ?_
      have hlow29 : ∀ id, id < N → ¬ FootW iC Fb k id → hpx26 id = hp id := fun id hid nf => (hfr28 id nf).trans (hlow0 id hid nf)
      subst hy23
      refine awp_ret ?_
      refine thenA_r ?_
      obtain rfl := Option.some.inj H
      exact ret0_hid hW27 hFt hlow29 (.inr rfl)
    · replace H := cond_f H hb21
      subst hy22
      refine awp_skip ?_
      refine thenA_n ?_
      subst hy15
      refine awp_regionL fun y30 hy30 => ?_
      refine goL_s (st_as (v := (PV.d true (.int .i64 (0 : Int)))) rfl) rfl ?_
      subst hy30
      refine awp_regionL fun y31 hy31 => ?_
      refine goL_s (st_mv (v := (PV.d true (.int .i64 x1))) rfl) rfl ?_
      refine goL_s (st_bin rfl rfl rfl rfl trivial) rfl ?_
      refine goL_s (st_as (v := (PV.d true (.int .i64 (IntKind.wrap .i64 (x1 + (1 : Int)))))) rfl) rfl ?_
      subst hy31
      refine awp_block ?_
      refine awp_loop (J18_1 (mkC 114 N Try.prog hp X) N hp id1 w1 iC vC Fb k x7 x8 x1 x6 n x2 x3 x9 x10 (F18 n) x4 x5 r) n ?_ ?_
      · unfold J18_1
        exact ⟨_, v14, (0 : Int), (IntKind.wrap .i64 (x1 + (1 : Int))), x11, Gh.join ⟨rfl, rfl, rfl, rfl, rfl, rfl, rfl, trivial⟩ ⟨hpL_hit, trivial⟩, fun id hid nf => (hpL_low hid).trans (hlow0 id hid nf), hW.low hFt, H⟩
      · intro m1 s hJ
        unfold J18_1 at hJ
        obtain ⟨hpx41, v35, x33, x34, x36, hG43, hlow42, hW44, H⟩ := hJ
        cases m1 with
        | zero => cases H
        | succ m1 =>
          rw [F18_L1] at H
          refine awp_gh hG43 ?_
          clear hG43
          refine awp_hide fun y45 hy45 => ?_
          refine awp_regionL fun y46 hy46 => ?_
          refine goL_s (st_mv (v := (PV.d true (.int .i64 x34))) rfl) rfl ?_
          refine goL_s (st_mv (v := (PV.ptr id1 w1 0)) rfl) rfl ?_
          refine goL_s (st_nil_p rfl (hpL_low' hid1 ((hlow42 _ hid1 hnF).trans ho1))) rfl ?_
          refine goL_s (st_fa_p (o' := 0) fi_72_0 (by decide) rfl (hpL_low' hid1 ((hlow42 _ hid1 hnF).trans ho1)) rfl) rfl ?_
          refine goL_s (st_ld_p (c := (PV.d true x7)) ty_26 rfl (hpL_low' hid1 ((hlow42 _ hid1 hnF).trans ho1)) rfl) rfl ?_
          obtain ⟨g47, H⟩ := gd_out H
          refine goL_s (st_len_d (id := 0) sl_26 rfl g47) rfl ?_
          refine goL_s (st_bin rfl rfl rfl rfl trivial) rfl ?_
          subst hy46
          refine awp_ifL (b := (decide (x34 < (lenN x7 : Int)))) rfl (fun y49 hy49 hb48 => ?_) (fun y49 hy49 hb48 => ?_)
          · replace H := cond_t H hb48
            subst hy49
            refine awp_skip ?_
            refine thenA_n ?_
            subst hy45
            refine awp_cut (J18_2 (mkC 114 N Try.prog hp X) N hp id1 w1 iC vC Fb k (F18_L1 x7 x8 x1 x6 n x2 x3 x9 x10 (F18 n) m1) x34 x1 x2 x3 x4 x5 x6 x7 x8 x9 x10 r) ?_ ?_
            · refine awp_block ?_
              refine awp_hide fun y57 hy57 => ?_
              refine awp_regionL fun y58 hy58 => ?_
              refine goL_s (st_mv (v := (PV.ptr id1 w1 0)) rfl) rfl ?_
              refine goL_s (st_nil_p rfl (hpL_low' hid1 ((hlow42 _ hid1 hnF).trans ho1))) rfl ?_
              refine goL_s (st_fa_p (o' := 1) fi_72_1 (by decide) rfl (hpL_low' hid1 ((hlow42 _ hid1 hnF).trans ho1)) rfl) rfl ?_
              refine goL_s (st_ld_p (c := (PV.d true x8)) ty_22 rfl (hpL_low' hid1 ((hlow42 _ hid1 hnF).trans ho1)) rfl) rfl ?_
              refine goL_s (st_mv (v := (PV.d true (.int .i64 x34))) rfl) rfl ?_
              obtain ⟨g59, H⟩ := gd_out H
              refine goL_s (st_ia_d el_22 sz_3 (by decide) (y := x8) rfl rfl g59) rfl ?_
              obtain ⟨⟨g60, g61⟩, H⟩ := gd_out H
              refine goL_s (st_ld_lp ty_3 rfl g60 (cI g61)) rfl ?_
              refine goL_s (st_mv (v := (PV.d true (.int .i64 x1))) rfl) rfl ?_
              refine goL_s (st_bin rfl rfl rfl rfl trivial) rfl ?_
              subst hy58
              refine awp_ifL (b := ((intD ((((cellsD x8).drop ((x34).toNat * 1))).getD 0 .nil)) != x1)) rfl (fun y63 hy63 hb62 => ?_) (fun y63 hy63 hb62 => ?_)
              · replace H := cond_t H hb62
                subst hy63
                refine awp_exit ?_
                refine thenA_e ?_
                refine blockA_h ?_
                refine thenA_n ?_
                unfold J18_2
                exact ⟨_, v35, x33, x36, Gh.join ⟨rfl, rfl, rfl, rfl, rfl, rfl, rfl, trivial⟩ ⟨hpL_hit, trivial⟩, fun id hid nf => (hpL_low hid).trans (hlow42 id hid nf), hW44.low hFt, H⟩
              · replace H := cond_f H hb62
                subst hy63
                refine awp_skip ?_
                refine thenA_n ?_
                subst hy57
                refine awp_regionL fun y64 hy64 => ?_
                refine goL_s (st_fa_p (o' := 2) fi_65_2 (by decide) rfl hpL_hit rfl) rfl ?_
                refine goL_s (st_ld_p (c := (PV.d true x6)) ty_63 rfl hpL_hit rfl) rfl ?_
                refine goL_s (st_mv (v := (PV.d true (.int .i64 x33))) rfl) rfl ?_
                obtain ⟨g65, H⟩ := gd_out H
                refine goL_s (st_ia_d el_63 sz_28 (by decide) (y := x6) rfl rfl g65) rfl ?_
                obtain ⟨g66, H⟩ := gd_out H
                refine goL_s (st_ld_lp ty_28 rfl g66 (dk_true _)) rfl ?_
                refine goL_s (st_as (v := (PV.d true ((((cellsD x6).drop ((x33).toNat * 1))).getD 0 .nil))) rfl) rfl ?_
                subst hy64
                refine awp_regionL fun y67 hy67 => ?_
                refine goL_s (st_mv (v := (PV.d true (.int .i64 x33))) rfl) rfl ?_
                refine goL_s (st_bin rfl rfl rfl rfl trivial) rfl ?_
                refine goL_s (st_as (v := (PV.d true (.int .i64 (IntKind.wrap .i64 (x33 + (1 : Int)))))) rfl) rfl ?_
                subst hy67
                refine awp_hide fun y68 hy68 => ?_
                refine awp_regionL fun y69 hy69 => ?_
                refine goL_s (st_mv (v := (PV.d true ((((cellsD x6).drop ((x33).toNat * 1))).getD 0 .nil))) rfl) rfl ?_
                obtain ⟨g70, H⟩ := gd_out H
                refine goL_s (st_len_d (id := 0) sl_28 rfl g70) rfl ?_
                refine goL_s (st_bin rfl rfl rfl rfl trivial) rfl ?_
                subst hy69
                refine awp_ifL (b := ((lenN ((((cellsD x6).drop ((x33).toNat * 1))).getD 0 .nil) : Int) == (0 : Int))) rfl (fun y72 hy72 hb71 => ?_) (fun y72 hy72 hb71 => ?_)
                · replace H := cond_t H hb71
                  subst hy72
                  refine awp_regionL fun y73 hy73 => ?_
                  refine goL_s (st_mv (v := (PV.ptr id1 w1 0)) rfl) rfl ?_
                  refine goL_s (st_mv (v := (PV.d true (.int .i64 x34))) rfl) rfl ?_
                  refine goL_s (st_mv (v := (PV.d true (.int .i64 x2))) rfl) rfl ?_
                  refine goL_s (st_mv (v := (PV.d true (.int .i64 x3))) rfl) rfl ?_
                  obtain ⟨x74, c75, H⟩ := bd_out H
                  refine goL_ch (W := fun h => WkF h iC vC Fb k x74) (Foot := FootW iC Fb k) (args' := [(PV.ptr id1 w1 0), (PV.d true (.int .i64 x34)), (PV.d true (.int .i64 x2)), (PV.d true (.int .i64 x3))]) (r := (PV.d true (.tup []))) (fun h h' e q => q.congr e) hFt rfl rfl ⟨Wk.refl, ⟨Wk.refl, ⟨Wk.refl, ⟨Wk.refl, trivial⟩⟩⟩⟩ enter_36 rfl (f36_calls c75 (N + 114) _ (Nat.lt_of_lt_of_le hid1 (Nat.le_add_right _ _)) (hpL_low' hid1 ((hlow42 _ hid1 hnF).trans ho1)) (hW44.low hFt) (fun id h => Nat.lt_of_lt_of_le (hFt id h) (Nat.le_add_right _ _)) hnF) fun hpx76 hW77 hfr78 => ?_
                  have hlow79 : ∀ id, id < N → ¬ FootW iC Fb k id → hpx76 id = hp id := fun id hid nf => (hfr78 id nf).trans (hlow42 id hid nf)
                  subst hy73
                  refine awp_exit ?_
                  refine thenA_e ?_
                  refine blockA_h ?_
                  refine thenA_n ?_
                  unfold J18_2
                  exact ⟨_, v35, (IntKind.wrap .i64 (x33 + (1 : Int))), x74, Gh.join ⟨rfl, rfl, rfl, rfl, rfl, rfl, rfl, trivial⟩ ⟨hpL_hit, trivial⟩, fun id hid nf => (hpL_low hid).trans (hlow79 id hid nf), hW77.low hFt, H⟩
                · replace H := cond_f H hb71
                  subst hy72
                  refine awp_skip ?_
                  refine thenA_n ?_
                  subst hy68
                  refine awp_regionL fun y80 hy80 => ?_
                  refine goL_s (st_as (v := (PV.d true (.int .i64 (0 : Int)))) rfl) rfl ?_
                  subst hy80
                  refine awp_cut (J18_3 (mkC 114 N Try.prog hp X) N hp id1 w1 iC vC Fb k x6 x33 (F18 n) x34 x2 x3 x7 x8 x9 x10 (F18_L1 x7 x8 x1 x6 n x2 x3 x9 x10 (F18 n) m1) n x36 x1 x4 x5 r) ?_ ?_
                  · refine awp_regionL fun y141 hy141 => ?_
                    refine goL_s (st_mv (v := (PV.ptr id1 w1 0)) rfl) rfl ?_
                    refine goL_s (st_nil_p rfl (hpL_low' hid1 ((hlow42 _ hid1 hnF).trans ho1))) rfl ?_
                    refine goL_s (st_fa_p (o' := 0) fi_72_0 (by decide) rfl (hpL_low' hid1 ((hlow42 _ hid1 hnF).trans ho1)) rfl) rfl ?_
                    refine goL_s (st_ld_p (c := (PV.d true x7)) ty_26 rfl (hpL_low' hid1 ((hlow42 _ hid1 hnF).trans ho1)) rfl) rfl ?_
                    refine goL_s (st_mv (v := (PV.d true (.int .i64 x34))) rfl) rfl ?_
                    obtain ⟨g142, H⟩ := gd_out H
                    refine goL_s (st_ia_d el_26 sz_61 (by decide) (y := x7) rfl rfl g142) rfl ?_
                    obtain ⟨g143, H⟩ := gd_out H
                    refine goL_s (st_fa_lp fi_61_1 (by decide) rfl g143) rfl ?_
                    obtain ⟨⟨g144, g145⟩, H⟩ := gd_out H
                    refine goL_s (st_ld_lp ty_3 rfl g144 (cI g145)) rfl ?_
                    refine goL_s (st_bin rfl rfl rfl rfl trivial) rfl ?_
                    subst hy141
                    refine awp_ifL (b := ((intD ((((((cellsD x7).drop ((x34).toNat * 4))).drop 1)).getD 0 .nil)) != (0 : Int))) rfl (fun y147 hy147 hb146 => ?_) (fun y147 hy147 hb146 => ?_)
                    · replace H := cond_t H hb146
                      subst hy147
                      refine awp_regionL1 ?_
                      refine goL_s (st_as (v := (PV.d true (.int .i64 (1 : Int)))) rfl) rfl ?_
                      refine thenA_n ?_
                      unfold J18_3
                      exact ⟨_, v35, (1 : Int), Gh.join ⟨rfl, rfl, rfl, rfl, rfl, rfl, rfl, rfl, rfl, trivial⟩ ⟨hpL_hit, trivial⟩, fun id hid nf => (hpL_low hid).trans (hlow42 id hid nf), hW44.low hFt, H⟩
                    · replace H := cond_f H hb146
                      subst hy147
                      refine awp_skip ?_
                      refine thenA_n ?_
                      unfold J18_3
                      exact ⟨_, v35, (0 : Int), Gh.join ⟨rfl, rfl, rfl, rfl, rfl, rfl, rfl, rfl, rfl, trivial⟩ ⟨hpL_hit, trivial⟩, fun id hid nf => (hpL_low hid).trans (hlow42 id hid nf), hW44.low hFt, H⟩
                  · intro s hJ
                    unfold J18_3 at hJ
                    obtain ⟨hpx83, v82, x81, hG85, hlow84, hW86, H⟩ := hJ
                    unfold F18_K3 at H
                    refine awp_gh hG85 ?_
                    clear hG85
                    refine awp_regionL fun y87 hy87 => ?_
                    refine goL_s (st_as (v := (PV.d true (.int .i64 (0 : Int)))) rfl) rfl ?_
                    subst hy87
                    refine awp_block ?_
                    refine awp_loop (J18_4 (mkC 114 N Try.prog hp X) N hp id1 w1 iC vC Fb k x6 x33 (F18 n) x34 x2 x3 x81 x7 x8 x9 x10 (F18_L1 x7 x8 x1 x6 n x2 x3 x9 x10 (F18 n) m1) x1 x4 x5 r) n ?_ ?_
                    · unfold J18_4
                      exact ⟨_, v82, (0 : Int), x36, Gh.join ⟨rfl, rfl, rfl, rfl, rfl, rfl, rfl, rfl, rfl, rfl, trivial⟩ ⟨hpL_hit, trivial⟩, fun id hid nf => (hpL_low hid).trans (hlow84 id hid nf), hW86.low hFt, H⟩
                    · intro m4 s hJ
                      unfold J18_4 at hJ
                      obtain ⟨hpx95, v90, x89, x91, hG97, hlow96, hW98, H⟩ := hJ
                      cases m4 with
                      | zero => cases H
                      | succ m4 =>
                        rw [F18_L4] at H
                        refine awp_gh hG97 ?_
                        clear hG97
                        refine awp_hide fun y99 hy99 => ?_
                        refine awp_regionL fun y100 hy100 => ?_
                        refine goL_s (st_mv (v := (PV.d true (.int .i64 x89))) rfl) rfl ?_
                        refine goL_s (st_mv (v := (PV.d true ((((cellsD x6).drop ((x33).toNat * 1))).getD 0 .nil))) rfl) rfl ?_
                        obtain ⟨g101, H⟩ := gd_out H
                        refine goL_s (st_len_d (id := 0) sl_28 rfl g101) rfl ?_
                        refine goL_s (st_bin rfl rfl rfl rfl trivial) rfl ?_
                        subst hy100
                        refine awp_ifL (b := (decide (x89 < (lenN ((((cellsD x6).drop ((x33).toNat * 1))).getD 0 .nil) : Int)))) rfl (fun y103 hy103 hb102 => ?_) (fun y103 hy103 hb102 => ?_)
                        · replace H := cond_t H hb102
                          subst hy103
                          refine awp_skip ?_
                          refine thenA_n ?_
                          subst hy99
                          refine awp_cut (J18_5 (mkC 114 N Try.prog hp X) N hp id1 w1 iC vC Fb k (F18_L4 x6 x33 (F18 n) x34 x2 x3 x81 x7 x8 x9 x10 (F18_L1 x7 x8 x1 x6 n x2 x3 x9 x10 (F18 n) m1) m4) x89 x1 x2 x3 x33 x34 x6 x81 x4 x5 x7 x8 x9 x10 r) ?_ ?_
                          · refine awp_block ?_
                            refine awp_regionL fun y110 hy110 => ?_
                            refine goL_s (st_mv (v := (PV.d true (.int .i64 x89))) rfl) rfl ?_
                            refine goL_s (st_bin rfl rfl rfl rfl trivial) rfl ?_
                            subst hy110
                            refine awp_ifL (b := (x89 == (0 : Int))) rfl (fun y112 hy112 hb111 => ?_) (fun y112 hy112 hb111 => ?_)
                            · replace H := cond_t H hb111
                              subst hy112
                              refine awp_regionL1 ?_
                              refine goL_s (st_mv (v := (PV.ptr id1 w1 0)) rfl) rfl ?_
                              refine goL_s (st_mv (v := (PV.d true (.int .i64 x34))) rfl) rfl ?_
                              refine goL_s (st_mv (v := (PV.d true (.int .i64 x2))) rfl) rfl ?_
                              refine goL_s (st_mv (v := (PV.d true (.int .i64 x3))) rfl) rfl ?_
                              refine goL_s (st_mv (v := (PV.d true (.int .i64 x81))) rfl) rfl ?_
                              refine goL_s (st_bin rfl rfl rfl rfl trivial) rfl ?_
                              refine goL_s (st_mv (v := (PV.d true ((((cellsD x6).drop ((x33).toNat * 1))).getD 0 .nil))) rfl) rfl ?_
                              refine goL_s (st_mv (v := (PV.d true (.int .i64 x89))) rfl) rfl ?_
                              obtain ⟨g113, H⟩ := gd_out H
                              refine goL_s (st_ia_d el_28 sz_65 (by decide) (y := ((((cellsD x6).drop ((x33).toNat * 1))).getD 0 .nil)) rfl rfl g113) rfl ?_
                              obtain ⟨g114, H⟩ := gd_out H
                              refine goL_s (st_ldA_lp ty_65 rfl g114) rfl ?_
                              obtain ⟨⟨g115, g116, g117, g118⟩, H⟩ := gd_out H
                              obtain ⟨x119, c120, H⟩ := bd_out H
                              refine goL_ch (W := fun h => WkF h iC vC Fb k x119) (Foot := FootW iC Fb k) (args' := [(PV.ptr id1 w1 0), (PV.d true (.int .i64 x34)), (PV.d true (.int .i64 x2)), (PV.d true (.int .i64 (IntKind.wrap .i64 (x3 + x81)))), (PV.agg [(PV.d true (.int .i64 (intD ((((cellsD ((((cellsD x6).drop ((x33).toNat * 1))).getD 0 .nil)).drop ((x89).toNat * 3))).getD 0 .nil)))), (PV.d true (.str (strD ((((cellsD ((((cellsD x6).drop ((x33).toNat * 1))).getD 0 .nil)).drop ((x89).toNat * 3))).getD 1 .nil)))), (PV.d true ((((cellsD ((((cellsD x6).drop ((x33).toNat * 1))).getD 0 .nil)).drop ((x89).toNat * 3))).getD 2 .nil))])]) (r := (PV.d true (.tup []))) (fun h h' e q => q.congr e) hFt rfl rfl ⟨Wk.refl, ⟨Wk.refl, ⟨Wk.refl, ⟨Wk.refl, ⟨(Wk.aggE (by rw [ex3 g115, cI g116, cS g117, dk_true])), trivial⟩⟩⟩⟩⟩ enter_18 rfl (ih c120 (N + 114) _ (Nat.lt_of_lt_of_le hid1 (Nat.le_add_right _ _)) (hpL_low' hid1 ((hlow96 _ hid1 hnF).trans ho1)) (hW98.low hFt) (fun id h => Nat.lt_of_lt_of_le (hFt id h) (Nat.le_add_right _ _)) hnF) fun hpx121 hW122 hfr123 => ?_
                              have hlow124 : ∀ id, id < N → ¬ FootW iC Fb k id → hpx121 id = hp id := fun id hid nf => (hfr123 id nf).trans (hlow96 id hid nf)
                              refine blockA_n ?_
                              refine thenA_n ?_
                              unfold J18_5
                              exact ⟨_, v90, x119, Gh.join ⟨rfl, rfl, rfl, rfl, rfl, rfl, rfl, rfl, rfl, rfl, trivial⟩ ⟨hpL_hit, trivial⟩, fun id hid nf => (hpL_low hid).trans (hlow124 id hid nf), hW122.low hFt, H⟩
                            · replace H := cond_f H hb111
                              subst hy112
                              refine awp_drawL1 18 16 [] follows_any (by kernel_rfl) (by kernel_rfl) (by kernel_rfl) (by kernel_rfl) fun opsd125 Kd125 hod125 hKd125 => ?_
                              refine goA_s trivial (st_mv (v := (PV.ptr id1 w1 0)) rfl) rfl fun rd0 => ?_
                              refine goA_s trivial (st_mv (v := (PV.d true (.int .i64 x34))) rfl) rfl fun rd1 => ?_
                              refine goA_s trivial (st_mv (v := (PV.ptr id1 w1 0)) rfl) rfl fun rd2 => ?_
                              refine goA_s trivial (st_nil_p rfl (hpL_low' hid1 ((hlow96 _ hid1 hnF).trans ho1))) rfl fun rd3 => ?_
                              refine goA_s trivial (st_fa_p (o' := 3) fi_72_3 (by decide) rfl (hpL_low' hid1 ((hlow96 _ hid1 hnF).trans ho1)) rfl) rfl fun rd4 => ?_
                              refine goA_s trivial (st_ld_p (c := (PV.d true x10)) ty_22 rfl (hpL_low' hid1 ((hlow96 _ hid1 hnF).trans ho1)) rfl) rfl fun rd5 => ?_
                              refine goA_s trivial (st_mv (v := (PV.d true (.int .i64 x34))) rfl) rfl fun rd6 => ?_
                              obtain ⟨g126, H⟩ := gd_out H
                              refine goA_s trivial (st_ia_d el_22 sz_3 (by decide) (y := x10) rfl rfl g126) rfl fun rd7 => ?_
                              obtain ⟨⟨g127, g128⟩, H⟩ := gd_out H
                              refine goA_s trivial (st_ld_lp ty_3 rfl g127 (cI g128)) rfl fun rd8 => ?_
                              refine goA_s trivial (st_mv (v := (PV.d true (.int .i64 x3))) rfl) rfl fun rd9 => ?_
                              refine goA_s trivial (st_mv (v := (PV.d true (.int .i64 x81))) rfl) rfl fun rd10 => ?_
                              refine goA_s trivial (st_bin rfl rfl rfl rfl trivial) rfl fun rd11 => ?_
                              refine goA_s trivial (st_mv (v := (PV.d true ((((cellsD x6).drop ((x33).toNat * 1))).getD 0 .nil))) rfl) rfl fun rd12 => ?_
                              refine goA_s trivial (st_mv (v := (PV.d true (.int .i64 x89))) rfl) rfl fun rd13 => ?_
                              obtain ⟨g129, H⟩ := gd_out H
                              refine goA_s trivial (st_ia_d el_28 sz_65 (by decide) (y := ((((cellsD x6).drop ((x33).toNat * 1))).getD 0 .nil)) rfl rfl g129) rfl fun rd14 => ?_
                              obtain ⟨g130, H⟩ := gd_out H
                              refine goA_s trivial (st_ldA_lp ty_65 rfl g130) rfl fun rd15 => ?_
                              refine goA_nil ?_
                              rw [hKd125]
                              refine ⟨?_, goOps_goL ?_⟩
                              · trivial
                              obtain ⟨⟨g131, g132, g133, g134⟩, H⟩ := gd_out H
                              obtain ⟨x135, c136, H⟩ := bd_out H
                              refine goL_ch (W := fun h => WkF h iC vC Fb k x135) (Foot := FootW iC Fb k) (args' := [(PV.ptr id1 w1 0), (PV.d true (.int .i64 x34)), (PV.d true (.int .i64 (intD ((((cellsD x10).drop ((x34).toNat * 1))).getD 0 .nil)))), (PV.d true (.int .i64 (IntKind.wrap .i64 (x3 + x81)))), (PV.agg [(PV.d true (.int .i64 (intD ((((cellsD ((((cellsD x6).drop ((x33).toNat * 1))).getD 0 .nil)).drop ((x89).toNat * 3))).getD 0 .nil)))), (PV.d true (.str (strD ((((cellsD ((((cellsD x6).drop ((x33).toNat * 1))).getD 0 .nil)).drop ((x89).toNat * 3))).getD 1 .nil)))), (PV.d true ((((cellsD ((((cellsD x6).drop ((x33).toNat * 1))).getD 0 .nil)).drop ((x89).toNat * 3))).getD 2 .nil))])]) (r := (PV.d true (.tup []))) (fun h h' e q => q.congr e) hFt rfl rfl ⟨Wk.refl, ⟨Wk.refl, ⟨Wk.refl, ⟨Wk.refl, ⟨(Wk.aggE (by rw [ex3 g131, cI g132, cS g133, dk_true])), trivial⟩⟩⟩⟩⟩ enter_18 rfl (ih c136 (N + 114) _ (Nat.lt_of_lt_of_le hid1 (Nat.le_add_right _ _)) (hpL_low' hid1 ((hlow96 _ hid1 hnF).trans ho1)) (hW98.low hFt) (fun id h => Nat.lt_of_lt_of_le (hFt id h) (Nat.le_add_right _ _)) hnF) fun hpx137 hW138 hfr139 => ?_
                              have hlow140 : ∀ id, id < N → ¬ FootW iC Fb k id → hpx137 id = hp id := fun id hid nf => (hfr139 id nf).trans (hlow96 id hid nf)
                              refine blockA_n ?_
                              refine thenA_n ?_
                              unfold J18_5
                              exact ⟨_, v90, x135, Gh.join ⟨rfl, rfl, rfl, rfl, rfl, rfl, rfl, rfl, rfl, rfl, trivial⟩ ⟨hpL_hit, trivial⟩, fun id hid nf => (hpL_low hid).trans (hlow140 id hid nf), hW138.low hFt, H⟩
                          · intro s hJ
                            unfold J18_5 at hJ
                            obtain ⟨hpx106, v104, x105, hG108, hlow107, hW109, H⟩ := hJ
                            unfold F18_K5 at H
                            refine awp_gh hG108 ?_
                            clear hG108
                            refine awp_regionL1 ?_
                            refine goL_s (st_mv (v := (PV.d true (.int .i64 x89))) rfl) rfl ?_
                            refine goL_s (st_bin rfl rfl rfl rfl trivial) rfl ?_
                            refine goL_s (st_as (v := (PV.d true (.int .i64 (IntKind.wrap .i64 (x89 + (1 : Int)))))) rfl) rfl ?_
                            refine thenA_n ?_
                            refine ⟨m4, Nat.lt_succ_self _, ?_⟩
                            unfold J18_4
                            exact ⟨_, v104, (IntKind.wrap .i64 (x89 + (1 : Int))), x105, Gh.join ⟨rfl, rfl, rfl, rfl, rfl, rfl, rfl, rfl, rfl, rfl, trivial⟩ ⟨hpL_hit, trivial⟩, fun id hid nf => (hpL_low hid).trans (hlow107 id hid nf), hW109.low hFt, H⟩
                        · replace H := cond_f H hb102
                          subst hy103
                          refine awp_exit ?_
                          refine thenA_e ?_
                          refine thenA_e ?_
                          refine blockA_h ?_
                          refine blockA_n ?_
                          refine thenA_n ?_
                          unfold J18_2
                          exact ⟨_, v90, (IntKind.wrap .i64 (x33 + (1 : Int))), x91, Gh.join ⟨rfl, rfl, rfl, rfl, rfl, rfl, rfl, trivial⟩ ⟨hpL_hit, trivial⟩, fun id hid nf => (hpL_low hid).trans (hlow96 id hid nf), hW98.low hFt, H⟩
            · intro s hJ
              unfold J18_2 at hJ
              obtain ⟨hpx53, v51, x50, x52, hG55, hlow54, hW56, H⟩ := hJ
              unfold F18_K2 at H
              refine awp_gh hG55 ?_
              clear hG55
              refine awp_regionL1 ?_
              refine goL_s (st_mv (v := (PV.d true (.int .i64 x34))) rfl) rfl ?_
              refine goL_s (st_bin rfl rfl rfl rfl trivial) rfl ?_
              refine goL_s (st_as (v := (PV.d true (.int .i64 (IntKind.wrap .i64 (x34 + (1 : Int)))))) rfl) rfl ?_
              refine thenA_n ?_
              refine ⟨m1, Nat.lt_succ_self _, ?_⟩
              unfold J18_1
              exact ⟨_, v51, x50, (IntKind.wrap .i64 (x34 + (1 : Int))), x52, Gh.join ⟨rfl, rfl, rfl, rfl, rfl, rfl, rfl, trivial⟩ ⟨hpL_hit, trivial⟩, fun id hid nf => (hpL_low hid).trans (hlow54 id hid nf), hW56.low hFt, H⟩
          · replace H := cond_f H hb48
            subst hy49
            refine awp_exit ?_
            refine thenA_e ?_
            refine thenA_e ?_
            refine blockA_h ?_
            obtain rfl := Option.some.inj H
            exact ret0_hid hW44 hFt hlow42 (.inl rfl)

def F17_K2 (lo1 : Int → Int → Nat → Nat → Nat → List PD → List PD → List PD → Option (PD × PD × Nat × Nat × Nat × (List PD) × (List PD) × (List PD))) (x16 : Int) (x18 : Nat) (x19 : Nat) (x47 : Int) (x49 : Nat) (x51 : List PD) (x53 : List PD) (x55 : List PD) : Option (PD × PD × Nat × Nat × Nat × (List PD) × (List PD) × (List PD)) :=
  lo1 x47 (IntKind.wrap .i64 (x16 + (1 : Int))) (x18 + 1) (x19 + 1) x49 x51 x53 x55

def J17_2 (C : Ctx) (N : Nat) (hp : HP) (lo1 : Int → Int → Nat → Nat → Nat → List PD → List PD → List PD → Option (PD × PD × Nat × Nat × Nat × (List PD) × (List PD) × (List PD))) (x16 : Int) (x18 : Nat) (x19 : Nat) (x1 : PD) (x4 : PD) (rr : PD × PD × Nat × Nat × Nat × (List PD) × (List PD) × (List PD)) (s : ASt) : Prop :=
  ∃ (hpx : HP) (v48 v50 v52 v54 : Nat) (x47 : Int) (x49 : Nat) (x51 : List PD) (x53 : List PD) (x55 : List PD), Gh C s ⟨envL [(0, (PV.d true x1)), (3, (PV.ptr (N + 12) v48 0)), (4, (PV.d true (.int .i64 x47))), (5, (PV.d true (.int .i64 x16)))], hpL N hpx [(12, (v48, some (.cells 72 [(PV.d true x1), (PV.d true x4), (PV.own (N + 59) v50 0 (x18 + 1)), (PV.own (N + 44) v52 0 (x19 + 1)), (PV.own (N + 79) v54 0 x49)]))), (59, (v50, some (.cells 3 ((x51).map (PV.d true))))), (44, (v52, some (.cells 3 ((x53).map (PV.d true))))), (79, (v54, some (.cells 36 ((x55).map (PV.d true)))))]⟩ ∧ (∀ id, ¬ (N ≤ id ∧ id < N + 85) → hpx id = hp id) ∧ F17_K2 lo1 x16 x18 x19 x47 x49 x51 x53 x55 = some rr

def F17_K4 (x4 : PD) (x67 : Int) (lo3 : Int → Int → Option (PD × PD × Nat × Nat × Nat × (List PD) × (List PD) × (List PD))) (x85 : Int) : Option (PD × PD × Nat × Nat × Nat × (List PD) × (List PD) × (List PD)) :=
  gd (idxOK 1 x4 x67) <|
  gd ((1 ≤ (((cellsD x4).drop ((x67).toNat * 1))).length) ∧ (isI .i64 ((((cellsD x4).drop ((x67).toNat * 1))).getD 0 .nil) = true)) <|
  lo3 x85 (intD ((((cellsD x4).drop ((x67).toNat * 1))).getD 0 .nil))

def J17_4 (C : Ctx) (N : Nat) (hp : HP) (x4 : PD) (x67 : Int) (lo3 : Int → Int → Option (PD × PD × Nat × Nat × Nat × (List PD) × (List PD) × (List PD))) (x1 : PD) (x15 : Int) (x16 : Int) (x18 : Nat) (x19 : Nat) (x20 : Nat) (x22 : List PD) (x24 : List PD) (x26 : List PD) (rr : PD × PD × Nat × Nat × Nat × (List PD) × (List PD) × (List PD)) (s : ASt) : Prop :=
  ∃ (hpx : HP) (v86 v87 v88 v89 : Nat) (x85 : Int), Gh C s ⟨envL [(0, (PV.d true x1)), (3, (PV.ptr (N + 12) v86 0)), (4, (PV.d true (.int .i64 x15))), (5, (PV.d true (.int .i64 x16))), (6, (PV.d true (.int .i64 x85))), (7, (PV.d true (.int .i64 x67)))], hpL N hpx [(12, (v86, some (.cells 72 [(PV.d true x1), (PV.d true x4), (PV.own (N + 59) v87 0 x18), (PV.own (N + 44) v88 0 x19), (PV.own (N + 79) v89 0 x20)]))), (59, (v87, some (.cells 3 ((x22).map (PV.d true))))), (44, (v88, some (.cells 3 ((x24).map (PV.d true))))), (79, (v89, some (.cells 36 ((x26).map (PV.d true)))))]⟩ ∧ (∀ id, ¬ (N ≤ id ∧ id < N + 85) → hpx id = hp id) ∧ F17_K4 x4 x67 lo3 x85 = some rr

def F17_L3 (x1 : PD) (x4 : PD) (x19 : Nat) (x24 : List PD) (x16 : Int) (x18 : Nat) (x22 : List PD) (lo1 : Int → Int → Nat → Nat → Nat → List PD → List PD → List PD → Option (PD × PD × Nat × Nat × Nat × (List PD) × (List PD) × (List PD))) (x15 : Int) (x20 : Nat) (x26 : List PD) : Nat → Int → Int → Option (PD × PD × Nat × Nat × Nat × (List PD) × (List PD) × (List PD))
  | 0, _, _ => none
  | m3 + 1, x66, x67 =>
    bif (decide ((0 : Int) ≤ x67)) then
      gd (idxOK 4 x1 x67) <|
      gd (1 ≤ (((cellsD x1).drop ((x67).toNat * 4))).length) <|
      gd ((1 ≤ (((((cellsD x1).drop ((x67).toNat * 4))).drop 1)).length) ∧ (isI .i64 ((((((cellsD x1).drop ((x67).toNat * 4))).drop 1)).getD 0 .nil) = true)) <|
      bif ((intD ((((((cellsD x1).drop ((x67).toNat * 4))).drop 1)).getD 0 .nil)) == (2 : Int)) then
        F17_K4 x4 x67 (F17_L3 x1 x4 x19 x24 x16 x18 x22 lo1 x15 x20 x26 m3) (IntKind.wrap .i64 (x66 + (1 : Int)))
      else
        F17_K4 x4 x67 (F17_L3 x1 x4 x19 x24 x16 x18 x22 lo1 x15 x20 x26 m3) x66
    else
      gd ((apOK 8 (x19 + 1)) ∧ (x19 * 1 = (x24).length)) <|
      gd (idxOK 4 x1 x16) <|
      gd (2 ≤ (((cellsD x1).drop ((x16).toNat * 4))).length) <|
      gd ((1 ≤ (((((cellsD x1).drop ((x16).toNat * 4))).drop 2)).length) ∧ (isI .i64 ((((((cellsD x1).drop ((x16).toNat * 4))).drop 2)).getD 0 .nil) = true)) <|
      bif ((intD ((((((cellsD x1).drop ((x16).toNat * 4))).drop 2)).getD 0 .nil)) == (0 : Int)) then
        gd ((apOK 8 (x18 + 1)) ∧ (x18 * 1 = (x22).length)) <|
        F17_K2 lo1 x16 x18 x19 x15 x20 (x22 ++ ([(.int .i64 ((-1) : Int))] : List PD)) (x24 ++ ([(.int .i64 x66)] : List PD)) x26
      else
        gd ((apOK 8 (x18 + 1)) ∧ (x18 * 1 = (x22).length)) <|
        gd ((apOK 72 (x20 + 1)) ∧ (x20 * 3 = (x26).length)) <|
        F17_K2 lo1 x16 x18 x19 (IntKind.wrap .i64 (x15 + (1 : Int))) (x20 + 1) (x22 ++ ([(.int .i64 x15)] : List PD)) (x24 ++ ([(.int .i64 x66)] : List PD)) (x26 ++ ([.nil, .nil, .nil] : List PD))

def J17_3 (C : Ctx) (N : Nat) (hp : HP) (x1 : PD) (x4 : PD) (x19 : Nat) (x24 : List PD) (x16 : Int) (x18 : Nat) (x22 : List PD) (lo1 : Int → Int → Nat → Nat → Nat → List PD → List PD → List PD → Option (PD × PD × Nat × Nat × Nat × (List PD) × (List PD) × (List PD))) (x15 : Int) (x20 : Nat) (x26 : List PD) (rr : PD × PD × Nat × Nat × Nat × (List PD) × (List PD) × (List PD)) (mm : Nat) (s : ASt) : Prop :=
  ∃ (hpx : HP) (v68 v69 v70 v71 : Nat) (x66 : Int) (x67 : Int), Gh C s ⟨envL [(0, (PV.d true x1)), (3, (PV.ptr (N + 12) v68 0)), (4, (PV.d true (.int .i64 x15))), (5, (PV.d true (.int .i64 x16))), (6, (PV.d true (.int .i64 x66))), (7, (PV.d true (.int .i64 x67)))], hpL N hpx [(12, (v68, some (.cells 72 [(PV.d true x1), (PV.d true x4), (PV.own (N + 59) v69 0 x18), (PV.own (N + 44) v70 0 x19), (PV.own (N + 79) v71 0 x20)]))), (59, (v69, some (.cells 3 ((x22).map (PV.d true))))), (44, (v70, some (.cells 3 ((x24).map (PV.d true))))), (79, (v71, some (.cells 36 ((x26).map (PV.d true)))))]⟩ ∧ (∀ id, ¬ (N ≤ id ∧ id < N + 85) → hpx id = hp id) ∧ F17_L3 x1 x4 x19 x24 x16 x18 x22 lo1 x15 x20 x26 mm x66 x67 = some rr

def F17_L1 (x1 : PD) (x4 : PD) (n : Nat) : Nat → Int → Int → Nat → Nat → Nat → List PD → List PD → List PD → Option (PD × PD × Nat × Nat × Nat × (List PD) × (List PD) × (List PD))
  | 0, _, _, _, _, _, _, _, _ => none
  | m1 + 1, x15, x16, x18, x19, x20, x22, x24, x26 =>
    gd (isSlD x1 = true) <|
    bif (decide (x16 < (lenN x1 : Int))) then
      F17_L3 x1 x4 x19 x24 x16 x18 x22 (F17_L1 x1 x4 n m1) x15 x20 x26 n (0 : Int) x16
    else
      some (x1, x4, x18, x19, x20, x22, x24, x26)

def J17_1 (C : Ctx) (N : Nat) (hp : HP) (x1 : PD) (x4 : PD) (n : Nat) (rr : PD × PD × Nat × Nat × Nat × (List PD) × (List PD) × (List PD)) (mm : Nat) (s : ASt) : Prop :=
  ∃ (hpx : HP) (v17 v21 v23 v25 : Nat) (x15 : Int) (x16 : Int) (x18 : Nat) (x19 : Nat) (x20 : Nat) (x22 : List PD) (x24 : List PD) (x26 : List PD), Gh C s ⟨envL [(0, (PV.d true x1)), (3, (PV.ptr (N + 12) v17 0)), (4, (PV.d true (.int .i64 x15))), (5, (PV.d true (.int .i64 x16)))], hpL N hpx [(12, (v17, some (.cells 72 [(PV.d true x1), (PV.d true x4), (PV.own (N + 59) v21 0 x18), (PV.own (N + 44) v23 0 x19), (PV.own (N + 79) v25 0 x20)]))), (59, (v21, some (.cells 3 ((x22).map (PV.d true))))), (44, (v23, some (.cells 3 ((x24).map (PV.d true))))), (79, (v25, some (.cells 36 ((x26).map (PV.d true)))))]⟩ ∧ (∀ id, ¬ (N ≤ id ∧ id < N + 85) → hpx id = hp id) ∧ F17_L1 x1 x4 n mm x15 x16 x18 x19 x20 x22 x24 x26 = some rr

def F17 (n : Nat) (x1 : PD) : Option (PD × PD × Nat × Nat × Nat × (List PD) × (List PD) × (List PD)) :=
  bd (F32 n x1) fun x4 =>
  gd ((isSlD x1 = true) ∧ (isSlD x4 = true)) <|
  gd ((isSlD x1 = true) ∧ (isSlD x4 = true)) <|
  F17_L1 x1 x4 n n (0 : Int) (0 : Int) 0 0 0 ([] : List PD) ([] : List PD) ([] : List PD)

set_option maxHeartbeats 4000000 in
theorem f17_calls {n : Nat} {x1 : PD} {r : PD × PD × Nat × Nat × Nat × (List PD) × (List PD) × (List PD)} (H : F17 n x1 = some r) (N : Nat) (hp : HP) (NT : Nat) (hB : N + 85 ≤ NT) : ACalls Try.prog 17 NT [(PV.d true x1)] hp fun r' hp' => ∃ z1 z2 z3 z4 : Nat, r' = .ptr (N + 12) z1 0 ∧ hp' (N + 12) = (z1, some (.cells 72 [(PV.d true r.1), (PV.d true r.2.1), (PV.own (N + 59) z2 0 r.2.2.1), (PV.own (N + 44) z3 0 r.2.2.2.1), (PV.own (N + 79) z4 0 r.2.2.2.2.1)])) ∧ hp' (N + 59) = (z2, some (.cells 3 ((r.2.2.2.2.2.1).map (PV.d true)))) ∧ hp' (N + 44) = (z3, some (.cells 3 ((r.2.2.2.2.2.2.1).map (PV.d true)))) ∧ hp' (N + 79) = (z4, some (.cells 36 ((r.2.2.2.2.2.2.2).map (PV.d true)))) ∧ (∀ d, d < 85 → ([12, 59, 44, 79] : List Nat).contains d = false → (hp' (N + d)).2 = none) ∧ ∀ id, ¬ (N ≤ id ∧ id < N + 85) → hp' id = hp id := by
  unfold F17 at H
  refine acalls_body_nm Try.func17 rfl rfl Try.ntmps17 (by simp) (Nat.le_refl NT) (fun d => N + d) (fun d hd => by omega) fun X _ => ?_
  refine awp_start (l := [(0, (PV.d true x1))]) (N := N) ⟨rfl, trivial⟩ ?_
  have hlow0 : ∀ id, ¬ (N ≤ id ∧ id < N + 85) → hp id = hp id := fun _ _ => rfl
  refine awp_regionL fun y2 hy2 => ?_
  refine goL_s (st_as (v := PV.dead) rfl) rfl ?_
  subst hy2
  refine awp_regionL fun y3 hy3 => ?_
  refine goL_s (st_mv (v := (PV.d true x1)) rfl) rfl ?_
  refine goL_s (st_mv (v := (PV.d true x1)) rfl) rfl ?_
  obtain ⟨x4, c5, H⟩ := bd_out H
  refine goL_cp (args' := [(PV.d true x1)]) (r := (PV.d true x4)) rfl rfl ⟨Wk.refl, trivial⟩ enter_32 rfl (f32_calls c5 NT _) ?_
  obtain ⟨⟨g6, g7⟩, H⟩ := gd_out H
  refine goL_s (st_buildR (parts := [(0, (PV.d true x1)), (1, (PV.d true x4))]) (cells := [(PV.d true x1), (PV.d true x4), (PV.d true .nil), (PV.d true .nil), (PV.d true .nil)]) ze_72 sr_72 rfl (FillR.cons (cells' := [(PV.d true x1), (PV.d true .nil), (PV.d true .nil), (PV.d true .nil), (PV.d true .nil)]) rfl (cells_sl g6) rfl (Nat.le_of_ble_eq_true rfl) ⟨oneSl g6, trivial⟩ rfl (FillR.cons (cells' := [(PV.d true x1), (PV.d true x4), (PV.d true .nil), (PV.d true .nil), (PV.d true .nil)]) rfl (cells_sl g7) rfl (Nat.le_of_ble_eq_true rfl) ⟨oneSl g7, trivial⟩ rfl FillR.nil))) rfl ?_
  obtain ⟨⟨g8, g9⟩, H⟩ := gd_out H
  refine goL_n (d' := 12) (st_box (v := (PV.agg [(PV.d true x1), (PV.d true x4), (PV.d true .nil), (PV.d true .nil), (PV.d true .nil)])) (cs := [(PV.d true x1), (PV.d true x4), (PV.d true .nil), (PV.d true .nil), (PV.d true .nil)]) rfl rfl ⟨oneSl g8, oneSl g9, rfl, rfl, rfl, trivial⟩) rfl fun v10 => ?_
  refine goL_s (st_as (v := (PV.ptr (N + 12) v10 0)) rfl) rfl ?_
  subst hy3
  refine awp_regionL fun y11 hy11 => ?_
  refine goL_s (st_as (v := (PV.d true (.int .i64 (0 : Int)))) rfl) rfl ?_
  subst hy11
  refine awp_hide fun y12 hy12 => ?_
  refine awp_regionL fun y13 hy13 => ?_
  refine goL_s (st_as (v := (PV.d true (.int .i64 (0 : Int)))) rfl) rfl ?_
  subst hy13
  refine awp_block ?_
  refine awp_loop (J17_1 (mkB 85 NT N Try.prog hp X hB) N hp x1 x4 n r) n ?_ ?_
  · unfold J17_1
    exact ⟨_, v10, _, _, _, (0 : Int), (0 : Int), 0, 0, 0, ([] : List PD), ([] : List PD), ([] : List PD), ((Gh.virtC (d := 59) (i := 2) 3 (Nat.lt_of_lt_of_le (Nat.add_lt_add_left (show 59 < 85 by decide) N) hB) hpL_hit rfl rfl rfl).trans (((Gh.virtC (d := 44) (i := 3) 3 (Nat.lt_of_lt_of_le (Nat.add_lt_add_left (show 44 < 85 by decide) N) hB) hpL_hit rfl rfl rfl).trans (((Gh.virtC (d := 79) (i := 4) 36 (Nat.lt_of_lt_of_le (Nat.add_lt_add_left (show 79 < 85 by decide) N) hB) hpL_hit rfl rfl rfl).trans (Gh.join ⟨rfl, rfl, rfl, rfl, trivial⟩ ⟨hpL_hit, (hpL_miss rfl (hpL_miss rfl (hpL_miss rfl (hpL_miss rfl (hpL_miss rfl hpL_hit))))), (hpL_miss rfl (hpL_miss rfl (hpL_miss rfl hpL_hit))), (hpL_miss rfl hpL_hit), trivial⟩)))))), low_esc hlow0 (by intro k hk; simp at hk; omega), H⟩
  · intro m1 s hJ
    unfold J17_1 at hJ
    obtain ⟨hpx39, v17, v21, v23, v25, x15, x16, x18, x19, x20, x22, x24, x26, hG41, hlow40, H⟩ := hJ
    cases m1 with
    | zero => cases H
    | succ m1 =>
      rw [F17_L1] at H
      refine awp_gh hG41 ?_
      clear hG41
      refine awp_hide fun y42 hy42 => ?_
      refine awp_regionL fun y43 hy43 => ?_
      refine goL_s (st_mv (v := (PV.d true (.int .i64 x16))) rfl) rfl ?_
      refine goL_s (st_mv (v := (PV.d true x1)) rfl) rfl ?_
      obtain ⟨g44, H⟩ := gd_out H
      refine goL_s (st_len_d (id := 0) sl_26 rfl g44) rfl ?_
      refine goL_s (st_bin rfl rfl rfl rfl trivial) rfl ?_
      subst hy43
      refine awp_ifL (b := (decide (x16 < (lenN x1 : Int)))) rfl (fun y46 hy46 hb45 => ?_) (fun y46 hy46 hb45 => ?_)
      · replace H := cond_t H hb45
        subst hy46
        refine awp_skip ?_
        refine thenA_n ?_
        subst hy42
        refine awp_cut (J17_2 (mkB 85 NT N Try.prog hp X hB) N hp (F17_L1 x1 x4 n m1) x16 x18 x19 x1 x4 r) ?_ ?_
        · refine awp_block ?_
          refine awp_regionL fun y59 hy59 => ?_
          refine goL_s (st_as (v := (PV.d true (.int .i64 (0 : Int)))) rfl) rfl ?_
          subst hy59
          refine awp_hide fun y60 hy60 => ?_
          refine awp_regionL fun y61 hy61 => ?_
          refine goL_s (st_mv (v := (PV.d true (.int .i64 x16))) rfl) rfl ?_
          refine goL_s (st_as (v := (PV.d true (.int .i64 x16))) rfl) rfl ?_
          subst hy61
          refine awp_block ?_
          refine awp_loop (J17_3 (mkB 85 NT N Try.prog hp X hB) N hp x1 x4 x19 x24 x16 x18 x22 (F17_L1 x1 x4 n m1) x15 x20 x26 r) n ?_ ?_
          · unfold J17_3
            exact ⟨_, v17, v21, v23, v25, (0 : Int), x16, Gh.join ⟨rfl, rfl, rfl, rfl, rfl, rfl, trivial⟩ ⟨hpL_hit, (hpL_miss rfl hpL_hit), (hpL_miss rfl (hpL_miss rfl hpL_hit)), (hpL_miss rfl (hpL_miss rfl (hpL_miss rfl hpL_hit))), trivial⟩, low_esc hlow40 (by intro k hk; simp at hk; omega), H⟩
          · intro m3 s hJ
            unfold J17_3 at hJ
            obtain ⟨hpx78, v68, v69, v70, v71, x66, x67, hG80, hlow79, H⟩ := hJ
            cases m3 with
            | zero => cases H
            | succ m3 =>
              rw [F17_L3] at H
              refine awp_gh hG80 ?_
              clear hG80
              refine awp_hide fun y81 hy81 => ?_
              refine awp_regionL fun y82 hy82 => ?_
              refine goL_s (st_mv (v := (PV.d true (.int .i64 x67))) rfl) rfl ?_
              refine goL_s (st_bin rfl rfl rfl rfl trivial) rfl ?_
              subst hy82
              refine awp_ifL (b := (decide ((0 : Int) ≤ x67))) rfl (fun y84 hy84 hb83 => ?_) (fun y84 hy84 hb83 => ?_)
              · replace H := cond_t H hb83
                subst hy84
                refine awp_skip ?_
                refine thenA_n ?_
                subst hy81
                refine awp_cut (J17_4 (mkB 85 NT N Try.prog hp X hB) N hp x4 x67 (F17_L3 x1 x4 x19 x24 x16 x18 x22 (F17_L1 x1 x4 n m1) x15 x20 x26 m3) x1 x15 x16 x18 x19 x20 x22 x24 x26 r) ?_ ?_
                · refine awp_block ?_
                  refine awp_regionL fun y96 hy96 => ?_
                  refine goL_s (st_mv (v := (PV.d true x1)) rfl) rfl ?_
                  refine goL_s (st_mv (v := (PV.d true (.int .i64 x67))) rfl) rfl ?_
                  obtain ⟨g97, H⟩ := gd_out H
                  refine goL_s (st_ia_d el_26 sz_61 (by decide) (y := x1) rfl rfl g97) rfl ?_
                  obtain ⟨g98, H⟩ := gd_out H
                  refine goL_s (st_fa_lp fi_61_1 (by decide) rfl g98) rfl ?_
                  obtain ⟨⟨g99, g100⟩, H⟩ := gd_out H
                  refine goL_s (st_ld_lp ty_3 rfl g99 (cI g100)) rfl ?_
                  refine goL_s (st_bin rfl rfl rfl rfl trivial) rfl ?_
                  subst hy96
                  refine awp_ifL (b := ((intD ((((((cellsD x1).drop ((x67).toNat * 4))).drop 1)).getD 0 .nil)) == (2 : Int))) rfl (fun y102 hy102 hb101 => ?_) (fun y102 hy102 hb101 => ?_)
                  · replace H := cond_t H hb101
                    subst hy102
                    refine awp_regionL1 ?_
                    refine goL_s (st_mv (v := (PV.d true (.int .i64 x66))) rfl) rfl ?_
                    refine goL_s (st_bin rfl rfl rfl rfl trivial) rfl ?_
                    refine goL_s (st_as (v := (PV.d true (.int .i64 (IntKind.wrap .i64 (x66 + (1 : Int)))))) rfl) rfl ?_
                    refine blockA_n ?_
                    refine thenA_n ?_
                    unfold J17_4
                    exact ⟨_, v68, v69, v70, v71, (IntKind.wrap .i64 (x66 + (1 : Int))), Gh.join ⟨rfl, rfl, rfl, rfl, rfl, rfl, trivial⟩ ⟨hpL_hit, (hpL_miss rfl hpL_hit), (hpL_miss rfl (hpL_miss rfl hpL_hit)), (hpL_miss rfl (hpL_miss rfl (hpL_miss rfl hpL_hit))), trivial⟩, low_esc hlow79 (by intro k hk; simp at hk; omega), H⟩
                  · replace H := cond_f H hb101
                    subst hy102
                    refine awp_skip ?_
                    refine blockA_n ?_
                    refine thenA_n ?_
                    unfold J17_4
                    exact ⟨_, v68, v69, v70, v71, x66, Gh.join ⟨rfl, rfl, rfl, rfl, rfl, rfl, trivial⟩ ⟨hpL_hit, (hpL_miss rfl hpL_hit), (hpL_miss rfl (hpL_miss rfl hpL_hit)), (hpL_miss rfl (hpL_miss rfl (hpL_miss rfl hpL_hit))), trivial⟩, low_esc hlow79 (by intro k hk; simp at hk; omega), H⟩
                · intro s hJ
                  unfold J17_4 at hJ
                  obtain ⟨hpx90, v86, v87, v88, v89, x85, hG92, hlow91, H⟩ := hJ
                  unfold F17_K4 at H
                  refine awp_gh hG92 ?_
                  clear hG92
                  refine awp_regionL1 ?_
                  refine goL_s (st_mv (v := (PV.ptr (N + 12) v86 0)) rfl) rfl ?_
                  refine goL_s (st_nil_p rfl hpL_hit) rfl ?_
                  refine goL_s (st_fa_p (o' := 1) fi_72_1 (by decide) rfl hpL_hit rfl) rfl ?_
                  refine goL_s (st_ld_p (c := (PV.d true x4)) ty_22 rfl hpL_hit rfl) rfl ?_
                  refine goL_s (st_mv (v := (PV.d true (.int .i64 x67))) rfl) rfl ?_
                  obtain ⟨g93, H⟩ := gd_out H
                  refine goL_s (st_ia_d el_22 sz_3 (by decide) (y := x4) rfl rfl g93) rfl ?_
                  obtain ⟨⟨g94, g95⟩, H⟩ := gd_out H
                  refine goL_s (st_ld_lp ty_3 rfl g94 (cI g95)) rfl ?_
                  refine goL_s (st_as (v := (PV.d true (.int .i64 (intD ((((cellsD x4).drop ((x67).toNat * 1))).getD 0 .nil))))) rfl) rfl ?_
                  refine thenA_n ?_
                  refine ⟨m3, Nat.lt_succ_self _, ?_⟩
                  unfold J17_3
                  exact ⟨_, v86, v87, v88, v89, x85, (intD ((((cellsD x4).drop ((x67).toNat * 1))).getD 0 .nil)), Gh.join ⟨rfl, rfl, rfl, rfl, rfl, rfl, trivial⟩ ⟨hpL_hit, (hpL_miss rfl hpL_hit), (hpL_miss rfl (hpL_miss rfl hpL_hit)), (hpL_miss rfl (hpL_miss rfl (hpL_miss rfl hpL_hit))), trivial⟩, low_esc hlow91 (by intro k hk; simp at hk; omega), H⟩
              · replace H := cond_f H hb83
                subst hy84
                refine awp_exit ?_
                refine thenA_e ?_
                refine thenA_e ?_
                refine blockA_h ?_
                refine thenA_n ?_
                subst hy60
                refine awp_regionL fun y103 hy103 => ?_
                refine goL_s (st_mv (v := (PV.ptr (N + 12) v68 0)) rfl) rfl ?_
                refine goL_s (st_mv (v := (PV.ptr (N + 12) v68 0)) rfl) rfl ?_
                refine goL_s (st_nil_p rfl hpL_hit) rfl ?_
                refine goL_s (st_fa_p (o' := 3) fi_72_3 (by decide) rfl hpL_hit rfl) rfl ?_
                refine goL_s (st_ld_p (c := (PV.own (N + 44) v70 0 x19)) ty_22 rfl hpL_hit rfl) rfl ?_
                refine goL_s (st_mv (v := (PV.d true (.int .i64 x66))) rfl) rfl ?_
                refine goL_n (d' := 43) (st_bs1 (x := (PV.d true (.int .i64 x66))) (cs := [(PV.d true (.int .i64 x66))]) el_22 ze_3 sz_3 (by decide) rfl (by decide) rfl rfl rfl ⟨rfl, trivial⟩) rfl fun v104 => ?_
                obtain ⟨⟨g105, g106⟩, H⟩ := gd_out H
                refine goL_n (d' := 44) (st_ap_o (row := (x24).map (PV.d true)) (news := (([(.int .i64 x66)] : List PD)).map (PV.d true)) (m := 1) (vy := (PV.own (N + 43) v104 0 1)) el_22 ze_3 sz_3 by_3 (by decide) rfl rfl (hpL_miss rfl (hpL_miss rfl (hpL_miss rfl hpL_hit))) rfl (src_own sz_3 hpL_hit rfl) g105 (by rw [List.length_map]; exact g106) (app_D _ _)) rfl fun v107 => ?_
                refine goL_s (st_nil_p rfl (hpL_miss rfl (hpL_miss rfl hpL_hit))) rfl ?_
                refine goL_s (st_fa_p (o' := 3) fi_72_3 (by decide) rfl (hpL_miss rfl (hpL_miss rfl hpL_hit)) rfl) rfl ?_
                refine goL_o0 (st_sto (x := (PV.own (N + 44) v107 0 (x19 + 1))) (cs := [(PV.own (N + 44) v107 0 (x19 + 1))]) (row' := [(PV.d true x1), (PV.d true x4), (PV.own (N + 59) v69 0 x18), (PV.own (N + 44) v107 0 (x19 + 1)), (PV.own (N + 79) v71 0 x20)]) ty_22 rfl (hpL_miss rfl (hpL_miss rfl hpL_hit)) rfl rfl rfl (Nat.le_of_ble_eq_true rfl) ⟨fits_o hpL_hit, trivial⟩ rfl) rfl ?_
                subst hy103
                refine awp_hide fun y108 hy108 => ?_
                refine awp_regionL fun y109 hy109 => ?_
                refine goL_s (st_mv (v := (PV.d true x1)) rfl) rfl ?_
                refine goL_s (st_mv (v := (PV.d true (.int .i64 x16))) rfl) rfl ?_
                obtain ⟨g110, H⟩ := gd_out H
                refine goL_s (st_ia_d el_26 sz_61 (by decide) (y := x1) rfl rfl g110) rfl ?_
                obtain ⟨g111, H⟩ := gd_out H
                refine goL_s (st_fa_lp fi_61_2 (by decide) rfl g111) rfl ?_
                obtain ⟨⟨g112, g113⟩, H⟩ := gd_out H
                refine goL_s (st_ld_lp ty_3 rfl g112 (cI g113)) rfl ?_
                refine goL_s (st_bin rfl rfl rfl rfl trivial) rfl ?_
                subst hy109
                refine awp_ifL (b := ((intD ((((((cellsD x1).drop ((x16).toNat * 4))).drop 2)).getD 0 .nil)) == (0 : Int))) rfl (fun y115 hy115 hb114 => ?_) (fun y115 hy115 hb114 => ?_)
                · replace H := cond_t H hb114
                  subst hy115
                  refine awp_regionL fun y116 hy116 => ?_
                  refine goL_s (st_mv (v := (PV.ptr (N + 12) v68 0)) rfl) rfl ?_
                  refine goL_s (st_mv (v := (PV.ptr (N + 12) v68 0)) rfl) rfl ?_
                  refine goL_s (st_nil_p rfl hpL_hit) rfl ?_
                  refine goL_s (st_fa_p (o' := 2) fi_72_2 (by decide) rfl hpL_hit rfl) rfl ?_
                  refine goL_s (st_ld_p (c := (PV.own (N + 59) v69 0 x18)) ty_22 rfl hpL_hit rfl) rfl ?_
                  refine goL_n (d' := 58) (st_bs1 (x := (PV.d true (.int .i64 ((-1) : Int)))) (cs := [(PV.d true (.int .i64 ((-1) : Int)))]) el_22 ze_3 sz_3 (by decide) rfl (by decide) rfl rfl rfl ⟨rfl, trivial⟩) rfl fun v117 => ?_
                  obtain ⟨⟨g118, g119⟩, H⟩ := gd_out H
                  refine goL_n (d' := 59) (st_ap_o (row := (x22).map (PV.d true)) (news := (([(.int .i64 ((-1) : Int))] : List PD)).map (PV.d true)) (m := 1) (vy := (PV.own (N + 58) v117 0 1)) el_22 ze_3 sz_3 by_3 (by decide) rfl rfl (hpL_miss rfl (hpL_miss rfl (hpL_miss rfl (hpL_miss rfl (hpL_miss rfl hpL_hit))))) rfl (src_own sz_3 hpL_hit rfl) g118 (by rw [List.length_map]; exact g119) (app_D _ _)) rfl fun v120 => ?_
                  refine goL_s (st_nil_p rfl (hpL_miss rfl (hpL_miss rfl hpL_hit))) rfl ?_
                  refine goL_s (st_fa_p (o' := 2) fi_72_2 (by decide) rfl (hpL_miss rfl (hpL_miss rfl hpL_hit)) rfl) rfl ?_
                  refine goL_o0 (st_sto (x := (PV.own (N + 59) v120 0 (x18 + 1))) (cs := [(PV.own (N + 59) v120 0 (x18 + 1))]) (row' := [(PV.d true x1), (PV.d true x4), (PV.own (N + 59) v120 0 (x18 + 1)), (PV.own (N + 44) v107 0 (x19 + 1)), (PV.own (N + 79) v71 0 x20)]) ty_22 rfl (hpL_miss rfl (hpL_miss rfl hpL_hit)) rfl rfl rfl (Nat.le_of_ble_eq_true rfl) ⟨fits_o hpL_hit, trivial⟩ rfl) rfl ?_
                  subst hy116
                  refine awp_exit ?_
                  refine thenA_e ?_
                  refine blockA_h ?_
                  refine thenA_n ?_
                  unfold J17_2
                  exact ⟨_, v68, v120, v107, v71, x15, x20, (x22 ++ ([(.int .i64 ((-1) : Int))] : List PD)), (x24 ++ ([(.int .i64 x66)] : List PD)), x26, Gh.join ⟨rfl, rfl, rfl, rfl, trivial⟩ ⟨hpL_hit, (hpL_miss rfl hpL_hit), (hpL_miss rfl (hpL_miss rfl (hpL_miss rfl (hpL_miss rfl hpL_hit)))), (hpL_miss rfl (hpL_miss rfl (hpL_miss rfl (hpL_miss rfl (hpL_miss rfl (hpL_miss rfl (hpL_miss rfl (hpL_miss rfl (hpL_miss rfl hpL_hit))))))))), trivial⟩, low_esc hlow79 (by intro k hk; simp at hk; omega), H⟩
                · replace H := cond_f H hb114
                  subst hy115
                  refine awp_skip ?_
                  refine thenA_n ?_
                  subst hy108
                  refine awp_regionL fun y121 hy121 => ?_
                  refine goL_s (st_mv (v := (PV.ptr (N + 12) v68 0)) rfl) rfl ?_
                  refine goL_s (st_mv (v := (PV.ptr (N + 12) v68 0)) rfl) rfl ?_
                  refine goL_s (st_nil_p rfl hpL_hit) rfl ?_
                  refine goL_s (st_fa_p (o' := 2) fi_72_2 (by decide) rfl hpL_hit rfl) rfl ?_
                  refine goL_s (st_ld_p (c := (PV.own (N + 59) v69 0 x18)) ty_22 rfl hpL_hit rfl) rfl ?_
                  refine goL_s (st_mv (v := (PV.d true (.int .i64 x15))) rfl) rfl ?_
                  refine goL_n (d' := 68) (st_bs1 (x := (PV.d true (.int .i64 x15))) (cs := [(PV.d true (.int .i64 x15))]) el_22 ze_3 sz_3 (by decide) rfl (by decide) rfl rfl rfl ⟨rfl, trivial⟩) rfl fun v122 => ?_
                  obtain ⟨⟨g123, g124⟩, H⟩ := gd_out H
                  refine goL_n (d' := 59) (st_ap_o (row := (x22).map (PV.d true)) (news := (([(.int .i64 x15)] : List PD)).map (PV.d true)) (m := 1) (vy := (PV.own (N + 68) v122 0 1)) el_22 ze_3 sz_3 by_3 (by decide) rfl rfl (hpL_miss rfl (hpL_miss rfl (hpL_miss rfl (hpL_miss rfl (hpL_miss rfl hpL_hit))))) rfl (src_own sz_3 hpL_hit rfl) g123 (by rw [List.length_map]; exact g124) (app_D _ _)) rfl fun v125 => ?_
                  refine goL_s (st_nil_p rfl (hpL_miss rfl (hpL_miss rfl hpL_hit))) rfl ?_
                  refine goL_s (st_fa_p (o' := 2) fi_72_2 (by decide) rfl (hpL_miss rfl (hpL_miss rfl hpL_hit)) rfl) rfl ?_
                  refine goL_o0 (st_sto (x := (PV.own (N + 59) v125 0 (x18 + 1))) (cs := [(PV.own (N + 59) v125 0 (x18 + 1))]) (row' := [(PV.d true x1), (PV.d true x4), (PV.own (N + 59) v125 0 (x18 + 1)), (PV.own (N + 44) v107 0 (x19 + 1)), (PV.own (N + 79) v71 0 x20)]) ty_22 rfl (hpL_miss rfl (hpL_miss rfl hpL_hit)) rfl rfl rfl (Nat.le_of_ble_eq_true rfl) ⟨fits_o hpL_hit, trivial⟩ rfl) rfl ?_
                  subst hy121
                  refine awp_regionL fun y126 hy126 => ?_
                  refine goL_s (st_mv (v := (PV.ptr (N + 12) v68 0)) rfl) rfl ?_
                  refine goL_s (st_mv (v := (PV.ptr (N + 12) v68 0)) rfl) rfl ?_
                  refine goL_s (st_nil_p rfl hpL_hit) rfl ?_
                  refine goL_s (st_fa_p (o' := 4) fi_72_4 (by decide) rfl hpL_hit rfl) rfl ?_
                  refine goL_s (st_ld_p (c := (PV.own (N + 79) v71 0 x20)) ty_30 rfl hpL_hit rfl) rfl ?_
                  refine goL_s (st_buildR (parts := []) (cells := [(PV.d true .nil), (PV.d true .nil), (PV.d true .nil)]) ze_36 sr_36 rfl FillR.nil) rfl ?_
                  refine goL_n (d' := 78) (st_bs1 (x := (PV.agg [(PV.d true .nil), (PV.d true .nil), (PV.d true .nil)])) (cs := [(PV.d true .nil), (PV.d true .nil), (PV.d true .nil)]) el_30 ze_36 sz_36 (by decide) rfl (by decide) rfl rfl rfl ⟨rfl, rfl, rfl, trivial⟩) rfl fun v127 => ?_
                  obtain ⟨⟨g128, g129⟩, H⟩ := gd_out H
                  refine goL_n (d' := 79) (st_ap_o (row := (x26).map (PV.d true)) (news := (([.nil, .nil, .nil] : List PD)).map (PV.d true)) (m := 1) (vy := (PV.own (N + 78) v127 0 1)) el_30 ze_36 sz_36 by_36 (by decide) rfl rfl (hpL_miss rfl (hpL_miss rfl (hpL_miss rfl (hpL_miss rfl (hpL_miss rfl (hpL_miss rfl (hpL_miss rfl (hpL_miss rfl (hpL_miss rfl (hpL_miss rfl hpL_hit)))))))))) rfl (src_own sz_36 hpL_hit rfl) g128 (by rw [List.length_map]; exact g129) (app_D _ _)) rfl fun v130 => ?_
                  refine goL_s (st_nil_p rfl (hpL_miss rfl (hpL_miss rfl hpL_hit))) rfl ?_
                  refine goL_s (st_fa_p (o' := 4) fi_72_4 (by decide) rfl (hpL_miss rfl (hpL_miss rfl hpL_hit)) rfl) rfl ?_
                  refine goL_o0 (st_sto (x := (PV.own (N + 79) v130 0 (x20 + 1))) (cs := [(PV.own (N + 79) v130 0 (x20 + 1))]) (row' := [(PV.d true x1), (PV.d true x4), (PV.own (N + 59) v125 0 (x18 + 1)), (PV.own (N + 44) v107 0 (x19 + 1)), (PV.own (N + 79) v130 0 (x20 + 1))]) ty_30 rfl (hpL_miss rfl (hpL_miss rfl hpL_hit)) rfl rfl rfl (Nat.le_of_ble_eq_true rfl) ⟨fits_o hpL_hit, trivial⟩ rfl) rfl ?_
                  subst hy126
                  refine awp_regionL1 ?_
                  refine goL_s (st_mv (v := (PV.d true (.int .i64 x15))) rfl) rfl ?_
                  refine goL_s (st_bin rfl rfl rfl rfl trivial) rfl ?_
                  refine goL_s (st_as (v := (PV.d true (.int .i64 (IntKind.wrap .i64 (x15 + (1 : Int)))))) rfl) rfl ?_
                  refine blockA_n ?_
                  refine thenA_n ?_
                  unfold J17_2
                  exact ⟨_, v68, v125, v107, v130, (IntKind.wrap .i64 (x15 + (1 : Int))), (x20 + 1), (x22 ++ ([(.int .i64 x15)] : List PD)), (x24 ++ ([(.int .i64 x66)] : List PD)), (x26 ++ ([.nil, .nil, .nil] : List PD)), Gh.join ⟨rfl, rfl, rfl, rfl, trivial⟩ ⟨hpL_hit, (hpL_miss rfl (hpL_miss rfl (hpL_miss rfl (hpL_miss rfl hpL_hit)))), (hpL_miss rfl (hpL_miss rfl (hpL_miss rfl (hpL_miss rfl (hpL_miss rfl (hpL_miss rfl (hpL_miss rfl hpL_hit))))))), (hpL_miss rfl hpL_hit), trivial⟩, low_esc hlow79 (by intro k hk; simp at hk; omega), H⟩
        · intro s hJ
          unfold J17_2 at hJ
          obtain ⟨hpx56, v48, v50, v52, v54, x47, x49, x51, x53, x55, hG58, hlow57, H⟩ := hJ
          unfold F17_K2 at H
          refine awp_gh hG58 ?_
          clear hG58
          refine awp_regionL1 ?_
          refine goL_s (st_mv (v := (PV.d true (.int .i64 x16))) rfl) rfl ?_
          refine goL_s (st_bin rfl rfl rfl rfl trivial) rfl ?_
          refine goL_s (st_as (v := (PV.d true (.int .i64 (IntKind.wrap .i64 (x16 + (1 : Int)))))) rfl) rfl ?_
          refine thenA_n ?_
          refine ⟨m1, Nat.lt_succ_self _, ?_⟩
          unfold J17_1
          exact ⟨_, v48, v50, v52, v54, x47, (IntKind.wrap .i64 (x16 + (1 : Int))), (x18 + 1), (x19 + 1), x49, x51, x53, x55, Gh.join ⟨rfl, rfl, rfl, rfl, trivial⟩ ⟨hpL_hit, (hpL_miss rfl hpL_hit), (hpL_miss rfl (hpL_miss rfl hpL_hit)), (hpL_miss rfl (hpL_miss rfl (hpL_miss rfl hpL_hit))), trivial⟩, low_esc hlow57 (by intro k hk; simp at hk; omega), H⟩
      · replace H := cond_f H hb45
        subst hy46
        refine awp_exit ?_
        refine thenA_e ?_
        refine thenA_e ?_
        refine blockA_h ?_
        refine thenA_n ?_
        subst hy12
        refine awp_regionL fun y131 hy131 => ?_
        refine goL_s (st_mv (v := (PV.ptr (N + 12) v17 0)) rfl) rfl ?_
        refine goL_s (st_as (v := (PV.ptr (N + 12) v17 0)) rfl) rfl ?_
        subst hy131
        obtain rfl := Option.some.inj H
        refine ret_esc (h := hB) [12, 59, 44, 79] (fun _ h => h) (by intro k hk; simp at hk; omega) rfl (by decide) ?_ hlow40 ?_ ?_
        · rintro k ⟨o, ho⟩
          simp only [List.mem_cons, List.not_mem_nil, or_false, Prod.mk.injEq] at ho
          omega
        · intro k hk
          have hk' : k = 12 ∨ k = 59 ∨ k = 44 ∨ k = 79 := by simpa using hk
          rcases hk' with rfl | rfl | rfl | rfl
          · exact ⟨_, _, _, hpL_hit, ⟨trivial, trivial, (show N + 59 < NT from (Nat.lt_of_lt_of_le (Nat.add_lt_add_left (show 59 < 85 by decide) N) hB)), (show N + 44 < NT from (Nat.lt_of_lt_of_le (Nat.add_lt_add_left (show 44 < 85 by decide) N) hB)), (show N + 79 < NT from (Nat.lt_of_lt_of_le (Nat.add_lt_add_left (show 79 < 85 by decide) N) hB)), trivial⟩⟩
          · exact ⟨_, _, _, (hpL_miss rfl hpL_hit), (locs_R _)⟩
          · exact ⟨_, _, _, (hpL_miss rfl (hpL_miss rfl hpL_hit)), (locs_R _)⟩
          · exact ⟨_, _, _, (hpL_miss rfl (hpL_miss rfl (hpL_miss rfl hpL_hit))), (locs_R _)⟩
        · intro hp' h1 h2 h3
          exact ⟨v17, v21, v23, v25, rfl, (h1 _ rfl).trans hpL_hit, (h1 _ rfl).trans (hpL_miss rfl hpL_hit), (h1 _ rfl).trans (hpL_miss rfl (hpL_miss rfl hpL_hit)), (h1 _ rfl).trans (hpL_miss rfl (hpL_miss rfl (hpL_miss rfl hpL_hit))), fun d hd h => h2 d hd h, h3⟩

def F8_L3 (x71 : List Col) (lo2 : Int → List Col → Option (PD × Int)) (x49 : Int) : Nat → Int → Option (PD × Int)
  | 0, _ => none
  | m3 + 1, x79 =>
    bif (decide (x79 < (x71.length : Int))) then
      gd (0 ≤ x79 ∧ x79 < (x71.length : Nat)) <|
      gd (0 ≤ x79 ∧ x79 < (x71.length : Nat)) <|
      bif (decide ((4000 : Int) < ((x71.getD (x79).toNat default).r.length : Int))) then
        some (.nil, (4 : Int))
      else
        (F8_L3 x71 lo2 x49 m3) (IntKind.wrap .i64 (x79 + (1 : Int)))
    else
      lo2 (IntKind.wrap .i64 (x49 + (1 : Int))) x71

def J8_3 (C : Ctx) (N : Nat) (hp : HP) (N0 : Nat) (id1 w1 : Nat) (iC vC Fb k : Nat) (x71 : List Col) (lo2 : Int → List Col → Option (PD × Int)) (x49 : Int) (x2 : PD) (x37 : PD × PD × Nat × Nat × Nat × (List PD) × (List PD) × (List PD)) (rr : PD × Int) (mm : Nat) (s : ASt) : Prop :=
  ∃ (hpx : HP) (x79 : Int), Gh C s ⟨envL [(1, (PV.d true x2)), (8, (PV.ptr id1 w1 0)), (9, (PV.d true (.int .i64 x49))), (10, (PV.d true (.int .i64 x79)))], hpL N hpx []⟩ ∧ (∀ id, id < N0 → hpx id = hp id) ∧ hpx id1 = (w1, some (.cells 72 [(PV.d true x37.1), (PV.d true x37.2.1), (PV.d true (.lst x37.2.2.1 x37.2.2.2.2.2.1)), (PV.d true (.lst x37.2.2.2.1 x37.2.2.2.2.2.2.1)), (PV.own iC vC 0 k)])) ∧ WkF hpx iC vC Fb k x71 ∧ F8_L3 x71 lo2 x49 mm x79 = some rr

def F8_L2 (x2 : PD) (n : Nat) (x37 : PD × PD × Nat × Nat × Nat × (List PD) × (List PD) × (List PD)) : Nat → Int → List Col → Option (PD × Int)
  | 0, _, _ => none
  | m2 + 1, x49, x50 =>
    gd (isSlD x2 = true) <|
    bif (decide (x49 < (lenN x2 : Int))) then
      gd (idxOK 3 x2 x49) <|
      gd (3 ≤ (((cellsD x2).drop ((x49).toNat * 3))).length) <|
      gd ((3 ≤ (((cellsD x2).drop ((x49).toNat * 3))).length) ∧ (isI .i64 ((((cellsD x2).drop ((x49).toNat * 3))).getD 0 .nil) = true) ∧ (isS ((((cellsD x2).drop ((x49).toNat * 3))).getD 1 .nil) = true) ∧ (isSlD ((((cellsD x2).drop ((x49).toNat * 3))).getD 2 .nil) = true)) <|
      bd (F18 n (0 : Int) (0 : Int) (0 : Int) (intD ((((cellsD x2).drop ((x49).toNat * 3))).getD 0 .nil)) (strD ((((cellsD x2).drop ((x49).toNat * 3))).getD 1 .nil)) ((((cellsD x2).drop ((x49).toNat * 3))).getD 2 .nil) x37.1 x37.2.1 (.lst x37.2.2.1 x37.2.2.2.2.2.1) (.lst x37.2.2.2.1 x37.2.2.2.2.2.2.1) x50) fun x71 =>
      F8_L3 x71 (F8_L2 x2 n x37 m2) x49 n (0 : Int)
    else
      some ((.lst x37.2.2.2.2.1 (colsPD x50)), (0 : Int))

def J8_2 (C : Ctx) (N : Nat) (hp : HP) (N0 : Nat) (id1 w1 : Nat) (iC vC Fb k : Nat) (x2 : PD) (n : Nat) (x37 : PD × PD × Nat × Nat × Nat × (List PD) × (List PD) × (List PD)) (rr : PD × Int) (mm : Nat) (s : ASt) : Prop :=
  ∃ (hpx : HP) (x49 : Int) (x50 : List Col), Gh C s ⟨envL [(1, (PV.d true x2)), (8, (PV.ptr id1 w1 0)), (9, (PV.d true (.int .i64 x49)))], hpL N hpx []⟩ ∧ (∀ id, id < N0 → hpx id = hp id) ∧ hpx id1 = (w1, some (.cells 72 [(PV.d true x37.1), (PV.d true x37.2.1), (PV.d true (.lst x37.2.2.1 x37.2.2.2.2.2.1)), (PV.d true (.lst x37.2.2.2.1 x37.2.2.2.2.2.2.1)), (PV.own iC vC 0 k)])) ∧ WkF hpx iC vC Fb k x50 ∧ F8_L2 x2 n x37 mm x49 x50 = some rr

def F8_L1 (x2 : PD) (n : Nat) (x1 : PD) : Nat → Int → Option (PD × Int)
  | 0, _ => none
  | m1 + 1, x12 =>
    gd (isSlD x2 = true) <|
    bif (decide (x12 < (lenN x2 : Int))) then
      gd (idxOK 3 x2 x12) <|
      gd (3 ≤ (((cellsD x2).drop ((x12).toNat * 3))).length) <|
      gd ((3 ≤ (((cellsD x2).drop ((x12).toNat * 3))).length) ∧ (isI .i64 ((((cellsD x2).drop ((x12).toNat * 3))).getD 0 .nil) = true) ∧ (isS ((((cellsD x2).drop ((x12).toNat * 3))).getD 1 .nil) = true) ∧ (isSlD ((((cellsD x2).drop ((x12).toNat * 3))).getD 2 .nil) = true)) <|
      bd (F16 n x1 (intD ((((cellsD x2).drop ((x12).toNat * 3))).getD 0 .nil)) (strD ((((cellsD x2).drop ((x12).toNat * 3))).getD 1 .nil)) ((((cellsD x2).drop ((x12).toNat * 3))).getD 2 .nil)) fun x30 =>
      bif (x30 != (0 : Int)) then
        some (.nil, x30)
      else
        (F8_L1 x2 n x1 m1) (IntKind.wrap .i64 (x12 + (1 : Int)))
    else
      bd (F17 n x1) fun x37 =>
      gd ((x37.2.2.1 = x37.2.2.2.2.2.1.length) ∧ (x37.2.2.2.1 = x37.2.2.2.2.2.2.1.length) ∧ (x37.2.2.2.2.2.2.2.all isNilD = true) ∧ (x37.2.2.2.2.2.2.2.length = 3 * x37.2.2.2.2.1)) <|
      F8_L2 x2 n x37 n (0 : Int) (List.replicate x37.2.2.2.2.1 default)

def J8_1 (C : Ctx) (N : Nat) (hp : HP) (N0 : Nat) (x2 : PD) (n : Nat) (x1 : PD) (rr : PD × Int) (mm : Nat) (s : ASt) : Prop :=
  ∃ (hpx : HP) (x12 : Int), Gh C s ⟨envL [(0, (PV.d true x1)), (1, (PV.d true x2)), (6, (PV.d true (.int .i64 x12)))], hpL N hpx []⟩ ∧ (∀ id, id < N0 → hpx id = hp id) ∧ F8_L1 x2 n x1 mm x12 = some rr

def F8 (n : Nat) (x1 : PD) (x2 : PD) : Option (PD × Int) :=
  gd (isSlD x2 = true) <|
  bif (decide ((200 : Int) < (lenN x2 : Int))) then
    some (.nil, (4 : Int))
  else
    F8_L1 x2 n x1 n (0 : Int)

set_option maxHeartbeats 4000000 in
theorem f8_calls {n : Nat} {x1 : PD} {x2 : PD} {r : PD × Int} (H : F8 n x1 x2 = some r) (N0 : Nat) (hp : HP) : ACalls Try.prog 8 N0 [(PV.d true x1), (PV.d true x2)] hp fun r' hp' => r' = (PV.d true (.tup [r.1, (.int .i64 r.2)])) ∧ hp' = hp := by
  unfold F8 at H
  obtain ⟨k, hk⟩ : ∃ k, k = ((F17 n x1).map (fun x => x.2.2.2.2.1)).getD 0 := ⟨_, rfl⟩
  obtain ⟨N, hN⟩ : ∃ N, N = N0 + 85 + 3 * k := ⟨_, rfl⟩
  have hN0 : N0 ≤ N := by omega
  refine acalls_body_nm Try.func8 rfl rfl Try.ntmps8 (by simp) (T := N + 66) (by omega) (fun d => N + d) (fun d hd => by omega) fun X hX => ?_
  show awp (mkT 66 N0 (N + 66) N Try.prog hp X (Nat.le_refl _)) _ (retA (mkT 66 N0 (N + 66) N Try.prog hp X (Nat.le_refl _)) _ _) _
  refine awp_start (l := [(0, (PV.d true x1)), (1, (PV.d true x2))]) (N := N) ⟨rfl, rfl, trivial⟩ ?_
  have hlow0 : ∀ id, id < N0 → hp id = hp id := fun _ _ => rfl
  refine awp_regionL fun y3 hy3 => ?_
  refine goL_s (st_as (v := (PV.d true .nil)) rfl) rfl ?_
  refine goL_s (st_as (v := (PV.d true (.int .i64 (0 : Int)))) rfl) rfl ?_
  subst hy3
  refine awp_hide fun y4 hy4 => ?_
  refine awp_regionL fun y5 hy5 => ?_
  refine goL_s (st_mv (v := (PV.d true x2)) rfl) rfl ?_
  obtain ⟨g6, H⟩ := gd_out H
  refine goL_s (st_len_d (id := 0) sl_28 rfl g6) rfl ?_
  refine goL_s (st_bin rfl rfl rfl rfl trivial) rfl ?_
  subst hy5
  refine awp_ifL (b := (decide ((200 : Int) < (lenN x2 : Int)))) rfl (fun y8 hy8 hb7 => ?_) (fun y8 hy8 hb7 => ?_)
  · replace H := cond_t H hb7
    subst hy8
    refine awp_regionL fun y9 hy9 => ?_
    refine goL_s (st_as (v := (PV.d true .nil)) rfl) rfl ?_
    refine goL_s (st_as (v := (PV.d true (.int .i64 (4 : Int)))) rfl) rfl ?_
    subst hy9
    refine awp_ret ?_
    refine thenA_r ?_
    obtain rfl := Option.some.inj H
    exact retnG (ds := [.nil, (.int .i64 (4 : Int))]) (by decide) (ResL.cons (res_t (x := (PV.d true .nil)) (d := .nil) rfl rfl) (ResL.cons (res_t (x := (PV.d true (.int .i64 (4 : Int)))) (d := (.int .i64 (4 : Int))) rfl rfl) ResL.nil)) (fun id hid => (hpL_low (Nat.lt_of_lt_of_le hid hN0)).trans (hlow0 id hid)) ⟨rfl, rfl⟩ (.inr rfl)
  · replace H := cond_f H hb7
    subst hy8
    refine awp_skip ?_
    refine thenA_n ?_
    subst hy4
    refine awp_hide fun y10 hy10 => ?_
    refine awp_regionL fun y11 hy11 => ?_
    refine goL_s (st_as (v := (PV.d true (.int .i64 (0 : Int)))) rfl) rfl ?_
    subst hy11
    refine awp_block ?_
    refine awp_loop (J8_1 (mkT 66 N0 (N + 66) N Try.prog hp X (Nat.le_refl _)) N hp N0 x2 n x1 r) n ?_ ?_
    · unfold J8_1
      exact ⟨_, (0 : Int), Gh.join ⟨rfl, rfl, rfl, trivial⟩ trivial, fun id hid => (hpL_low (Nat.lt_of_lt_of_le hid hN0)).trans (hlow0 id hid), H⟩
    · intro m1 s hJ
      unfold J8_1 at hJ
      obtain ⟨hpx14, x12, hG16, hlow15, H⟩ := hJ
      cases m1 with
      | zero => cases H
      | succ m1 =>
        rw [F8_L1] at H
        refine awp_gh hG16 ?_
        clear hG16
        refine awp_hide fun y17 hy17 => ?_
        refine awp_regionL fun y18 hy18 => ?_
        refine goL_s (st_mv (v := (PV.d true (.int .i64 x12))) rfl) rfl ?_
        refine goL_s (st_mv (v := (PV.d true x2)) rfl) rfl ?_
        obtain ⟨g19, H⟩ := gd_out H
        refine goL_s (st_len_d (id := 0) sl_28 rfl g19) rfl ?_
        refine goL_s (st_bin rfl rfl rfl rfl trivial) rfl ?_
        subst hy18
        refine awp_ifL (b := (decide (x12 < (lenN x2 : Int)))) rfl (fun y21 hy21 hb20 => ?_) (fun y21 hy21 hb20 => ?_)
        · replace H := cond_t H hb20
          subst hy21
          refine awp_skip ?_
          refine thenA_n ?_
          subst hy17
          refine awp_hide fun y22 hy22 => ?_
          refine awp_block ?_
          refine awp_regionL fun y23 hy23 => ?_
          refine goL_s (st_mv (v := (PV.d true x1)) rfl) rfl ?_
          refine goL_s (st_mv (v := (PV.d true x2)) rfl) rfl ?_
          refine goL_s (st_mv (v := (PV.d true (.int .i64 x12))) rfl) rfl ?_
          obtain ⟨g24, H⟩ := gd_out H
          refine goL_s (st_ia_d el_28 sz_65 (by decide) (y := x2) rfl rfl g24) rfl ?_
          obtain ⟨g25, H⟩ := gd_out H
          refine goL_s (st_ldA_lp ty_65 rfl g25) rfl ?_
          obtain ⟨⟨g26, g27, g28, g29⟩, H⟩ := gd_out H
          obtain ⟨x30, c31, H⟩ := bd_out H
          refine goL_cp (args' := [(PV.d true x1), (PV.agg [(PV.d true (.int .i64 (intD ((((cellsD x2).drop ((x12).toNat * 3))).getD 0 .nil)))), (PV.d true (.str (strD ((((cellsD x2).drop ((x12).toNat * 3))).getD 1 .nil)))), (PV.d true ((((cellsD x2).drop ((x12).toNat * 3))).getD 2 .nil))])]) (r := (PV.d true (.int .i64 x30))) rfl rfl ⟨Wk.refl, ⟨(Wk.aggE (by rw [ex3 g26, cI g27, cS g28, dk_true])), trivial⟩⟩ enter_16 rfl (f16_calls c31 (N + 66) _) ?_
          refine goL_s (st_as (v := (PV.d true (.int .i64 x30))) rfl) rfl ?_
          subst hy23
          refine awp_regionL fun y32 hy32 => ?_
          refine goL_s (st_mv (v := (PV.d true (.int .i64 x30))) rfl) rfl ?_
          refine goL_s (st_bin rfl rfl rfl rfl trivial) rfl ?_
          subst hy32
          refine awp_ifL (b := (x30 != (0 : Int))) rfl (fun y34 hy34 hb33 => ?_) (fun y34 hy34 hb33 => ?_)
          · replace H := cond_t H hb33
            subst hy34
            refine awp_regionL fun y35 hy35 => ?_
            refine goL_s (st_mv (v := (PV.d true (.int .i64 x30))) rfl) rfl ?_
            refine goL_s (st_as (v := (PV.d true .nil)) rfl) rfl ?_
            refine goL_s (st_as (v := (PV.d true (.int .i64 x30))) rfl) rfl ?_
            subst hy35
            refine awp_ret ?_
            refine blockA_r ?_
            refine thenA_r ?_
            refine thenA_r ?_
            refine blockA_r ?_
            refine thenA_r ?_
            obtain rfl := Option.some.inj H
            exact retnG (ds := [.nil, (.int .i64 x30)]) (by decide) (ResL.cons (res_t (x := (PV.d true .nil)) (d := .nil) rfl rfl) (ResL.cons (res_t (x := (PV.d true (.int .i64 x30))) (d := (.int .i64 x30)) rfl rfl) ResL.nil)) (fun id hid => (hpL_low (Nat.lt_of_lt_of_le hid hN0)).trans (hlow15 id hid)) ⟨rfl, rfl⟩ (.inr rfl)
          · replace H := cond_f H hb33
            subst hy34
            refine awp_skip ?_
            refine blockA_n ?_
            refine thenA_n ?_
            subst hy22
            refine awp_regionL1 ?_
            refine goL_s (st_mv (v := (PV.d true (.int .i64 x12))) rfl) rfl ?_
            refine goL_s (st_bin rfl rfl rfl rfl trivial) rfl ?_
            refine goL_s (st_as (v := (PV.d true (.int .i64 (IntKind.wrap .i64 (x12 + (1 : Int)))))) rfl) rfl ?_
            refine thenA_n ?_
            refine ⟨m1, Nat.lt_succ_self _, ?_⟩
            unfold J8_1
            exact ⟨_, (IntKind.wrap .i64 (x12 + (1 : Int))), Gh.join ⟨rfl, rfl, rfl, trivial⟩ trivial, fun id hid => (hpL_low (Nat.lt_of_lt_of_le hid hN0)).trans (hlow15 id hid), H⟩
        · replace H := cond_f H hb20
          subst hy21
          refine awp_exit ?_
          refine thenA_e ?_
          refine thenA_e ?_
          refine blockA_h ?_
          refine thenA_n ?_
          subst hy10
          refine awp_regionL fun y36 hy36 => ?_
          refine goL_s (st_mv (v := (PV.d true x1)) rfl) rfl ?_
          obtain ⟨x37, c38, H⟩ := bd_out H
          obtain ⟨⟨g39, g40, g41, g42⟩, H⟩ := gd_out H
          have hkx : k = x37.2.2.2.2.1 := by rw [hk, c38]; rfl
          refine goL_q (args' := [(PV.d true x1)]) rfl rfl ⟨Wk.refl, trivial⟩ enter_17 rfl (f17_calls c38 N0 _ (N + 66) (by omega)) ?_
          rintro r' hp' ⟨w1, z2, z3, vC, rfl, e1, e2, e3, e4, -, hout⟩
          obtain ⟨id1, hid1'⟩ : ∃ i, i = N0 + 12 := ⟨_, rfl⟩
          obtain ⟨iC, hiC⟩ : ∃ i, i = N0 + 79 := ⟨_, rfl⟩
          rw [← hid1', ← hiC] at e1
          rw [← hiC] at e4
          rw [← hid1']
          rw [← hkx] at e1 g42
          rw [nils_eq g41 g42] at e4
          refine goL_s (st_as (v := (PV.ptr id1 w1 0)) rfl) rfl ?_
          subst hy36
          obtain ⟨Fb, hFb⟩ : ∃ i, i = N0 + 85 := ⟨_, rfl⟩
          refine awp_work (iW := id1) (i2 := N0 + 59) (i3 := N0 + 44) (iC := iC) (F := Fb) (k := k) (show Fb + 3 * k ≤ N + 66 by omega) (by refine ⟨?_, ?_, ?_, ?_, ?_, ?_⟩ <;> omega) (by refine ⟨?_, ?_, ?_, ?_⟩ <;> omega) (hX _ (by omega)) (hX _ (by omega)) sz_3 g39 g40 e1 e2 e3 e4 ?_
          intro hpx43 hc45 hW46 hfr0
          have hlow44 : ∀ id, id < N0 → hpx43 id = hp id := fun id hid => (hfr0 id (by omega) (by omega) (by omega) (by omega) (by omega)).trans ((hout id (by omega)).trans ((hpL_low (by omega)).trans (hlow15 id hid)))
          have hW46 : WkF hpx43 iC vC Fb k (List.replicate x37.2.2.2.2.1 default) := by rw [← hkx]; exact hW46
          have hid1 : id1 < N := by omega
          have hFt : ∀ id, FootW iC Fb k id → id < N := fun id h => by rcases h with h | h <;> omega
          have hnF : ¬ FootW iC Fb k id1 := fun h => by rcases h with h | h <;> omega
          have h0F : ∀ id, FootW iC Fb k id → (hp id).2 = none := fun id h => hX id (by rcases h with h | h <;> omega)
          have hlF : ∀ id, id < N0 → ¬ FootW iC Fb k id := fun id hid h => by rcases h with h | h <;> omega
          clear e1 e2 e3 e4 hout hfr0
          refine awp_hp0 (N := N) ?_
          refine awp_hide fun y47 hy47 => ?_
          refine awp_regionL fun y48 hy48 => ?_
          refine goL_s (st_as (v := (PV.d true (.int .i64 (0 : Int)))) rfl) rfl ?_
          subst hy48
          refine awp_block ?_
          refine awp_loop (J8_2 (mkT 66 N0 (N + 66) N Try.prog hp X (Nat.le_refl _)) N hp N0 id1 w1 iC vC Fb k x2 n x37 r) n ?_ ?_
          · unfold J8_2
            exact ⟨_, (0 : Int), (List.replicate x37.2.2.2.2.1 default), Gh.join ⟨rfl, rfl, rfl, trivial⟩ trivial, fun id hid => (hpL_low (Nat.lt_of_lt_of_le hid hN0)).trans (hlow44 id hid), (hpL_low hid1).trans hc45, hW46.low hFt, H⟩
          · intro m2 s hJ
            unfold J8_2 at hJ
            obtain ⟨hpx53, x49, x50, hG55, hlow54, hc56, hW57, H⟩ := hJ
            cases m2 with
            | zero => cases H
            | succ m2 =>
              rw [F8_L2] at H
              refine awp_gh hG55 ?_
              clear hG55
              refine awp_hide fun y58 hy58 => ?_
              refine awp_regionL fun y59 hy59 => ?_
              refine goL_s (st_mv (v := (PV.d true (.int .i64 x49))) rfl) rfl ?_
              refine goL_s (st_mv (v := (PV.d true x2)) rfl) rfl ?_
              obtain ⟨g60, H⟩ := gd_out H
              refine goL_s (st_len_d (id := 0) sl_28 rfl g60) rfl ?_
              refine goL_s (st_bin rfl rfl rfl rfl trivial) rfl ?_
              subst hy59
              refine awp_ifL (b := (decide (x49 < (lenN x2 : Int)))) rfl (fun y62 hy62 hb61 => ?_) (fun y62 hy62 hb61 => ?_)
              · replace H := cond_t H hb61
                subst hy62
                refine awp_skip ?_
                refine thenA_n ?_
                subst hy58
                refine awp_hide fun y63 hy63 => ?_
                refine awp_block ?_
                refine awp_regionL fun y64 hy64 => ?_
                refine goL_s (st_mv (v := (PV.ptr id1 w1 0)) rfl) rfl ?_
                refine goL_s (st_mv (v := (PV.d true x2)) rfl) rfl ?_
                refine goL_s (st_mv (v := (PV.d true (.int .i64 x49))) rfl) rfl ?_
                obtain ⟨g65, H⟩ := gd_out H
                refine goL_s (st_ia_d el_28 sz_65 (by decide) (y := x2) rfl rfl g65) rfl ?_
                obtain ⟨g66, H⟩ := gd_out H
                refine goL_s (st_ldA_lp ty_65 rfl g66) rfl ?_
                obtain ⟨⟨g67, g68, g69, g70⟩, H⟩ := gd_out H
                obtain ⟨x71, c72, H⟩ := bd_out H
                refine goL_ch (W := fun h => WkF h iC vC Fb k x71) (Foot := FootW iC Fb k) (args' := [(PV.ptr id1 w1 0), (PV.d true (.int .i64 (0 : Int))), (PV.d true (.int .i64 (0 : Int))), (PV.d true (.int .i64 (0 : Int))), (PV.agg [(PV.d true (.int .i64 (intD ((((cellsD x2).drop ((x49).toNat * 3))).getD 0 .nil)))), (PV.d true (.str (strD ((((cellsD x2).drop ((x49).toNat * 3))).getD 1 .nil)))), (PV.d true ((((cellsD x2).drop ((x49).toNat * 3))).getD 2 .nil))])]) (r := (PV.d true (.tup []))) (fun h h' e q => q.congr e) hFt rfl rfl ⟨Wk.refl, ⟨Wk.refl, ⟨Wk.refl, ⟨Wk.refl, ⟨(Wk.aggE (by rw [ex3 g67, cI g68, cS g69, dk_true])), trivial⟩⟩⟩⟩⟩ enter_18 rfl (f18_calls c72 (N + 66) _ (Nat.lt_of_lt_of_le hid1 (Nat.le_add_right _ _)) (hpL_low' hid1 hc56) (hW57.low hFt) (fun id h => Nat.lt_of_lt_of_le (hFt id h) (Nat.le_add_right _ _)) hnF) fun hpx73 hW74 hfr75 => ?_
                have hlow76 : ∀ id, id < N0 → hpx73 id = hp id := fun id hid => (hfr75 id (hlF id hid)).trans (hlow54 id hid)
                have hc77 : hpx73 id1 = (w1, some (.cells 72 [(PV.d true x37.1), (PV.d true x37.2.1), (PV.d true (.lst x37.2.2.1 x37.2.2.2.2.2.1)), (PV.d true (.lst x37.2.2.2.1 x37.2.2.2.2.2.2.1)), (PV.own iC vC 0 k)])) := (hfr75 id1 hnF).trans hc56
                subst hy64
                refine awp_regionL fun y78 hy78 => ?_
                refine goL_s (st_as (v := (PV.d true (.int .i64 (0 : Int)))) rfl) rfl ?_
                subst hy78
                refine awp_block ?_
                refine awp_loop (J8_3 (mkT 66 N0 (N + 66) N Try.prog hp X (Nat.le_refl _)) N hp N0 id1 w1 iC vC Fb k x71 (F8_L2 x2 n x37 m2) x49 x2 x37 r) n ?_ ?_
                · unfold J8_3
                  exact ⟨_, (0 : Int), Gh.join ⟨rfl, rfl, rfl, rfl, trivial⟩ trivial, fun id hid => (hpL_low (Nat.lt_of_lt_of_le hid hN0)).trans (hlow76 id hid), (hpL_low hid1).trans hc77, hW74.low hFt, H⟩
                · intro m3 s hJ
                  unfold J8_3 at hJ
                  obtain ⟨hpx81, x79, hG83, hlow82, hc84, hW85, H⟩ := hJ
                  cases m3 with
                  | zero => cases H
                  | succ m3 =>
                    rw [F8_L3] at H
                    refine awp_gh hG83 ?_
                    clear hG83
                    refine awp_hide fun y86 hy86 => ?_
                    refine awp_regionL fun y87 hy87 => ?_
                    refine goL_s (st_mv (v := (PV.d true (.int .i64 x79))) rfl) rfl ?_
                    refine goL_s (st_mv (v := (PV.ptr id1 w1 0)) rfl) rfl ?_
                    refine goL_s (st_nil_p rfl (hpL_low' hid1 hc84)) rfl ?_
                    refine goL_s (st_fa_p (o' := 4) fi_72_4 (by decide) rfl (hpL_low' hid1 hc84) rfl) rfl ?_
                    refine goL_s (st_ld_p (c := (PV.own iC vC 0 k)) ty_30 rfl (hpL_low' hid1 hc84) rfl) rfl ?_
                    refine goL_s (st_len_W (WkF.low (N := N) (m := []) hW85 hFt) sl_30 rfl) rfl ?_
                    refine goL_s (st_bin rfl rfl rfl rfl trivial) rfl ?_
                    subst hy87
                    refine awp_ifL (b := (decide (x79 < (x71.length : Int)))) rfl (fun y89 hy89 hb88 => ?_) (fun y89 hy89 hb88 => ?_)
                    · replace H := cond_t H hb88
                      subst hy89
                      refine awp_skip ?_
                      refine thenA_n ?_
                      subst hy86
                      refine awp_hide fun y90 hy90 => ?_
                      refine awp_block ?_
                      refine awp_regionL fun y91 hy91 => ?_
                      refine goL_s (st_mv (v := (PV.ptr id1 w1 0)) rfl) rfl ?_
                      refine goL_s (st_nil_p rfl (hpL_low' hid1 hc84)) rfl ?_
                      refine goL_s (st_fa_p (o' := 4) fi_72_4 (by decide) rfl (hpL_low' hid1 hc84) rfl) rfl ?_
                      refine goL_s (st_ld_p (c := (PV.own iC vC 0 k)) ty_30 rfl (hpL_low' hid1 hc84) rfl) rfl ?_
                      refine goL_s (st_mv (v := (PV.d true (.int .i64 x79))) rfl) rfl ?_
                      obtain ⟨g92, H⟩ := gd_out H
                      refine goL_s (st_ia_W (WkF.low (N := N) (m := []) hW85 hFt) el_30 sz_36 rfl rfl g92) rfl ?_
                      obtain ⟨rw93, hr94⟩ := (WkF.low (N := N) (m := []) hW85 hFt).row
                      refine goL_s (st_fa_p (o' := ((x79).toNat * 3)) fi_36_0 (by decide) rfl hr94 rfl) rfl ?_
                      obtain ⟨g101, H⟩ := gd_out H
                      obtain ⟨u95, rw96, hr97, ha98, R99, hR100⟩ := (WkF.low (N := N) (m := []) hW85 hFt).colr' g101
                      refine goL_s (st_ld_p (c := (PV.own (Fb + 3 * (x79).toNat) u95 0 (x71.getD (x79).toNat default).r.length)) ty_22 rfl hr97 ha98) rfl ?_
                      refine goL_s (st_len_o sl_22 rfl hR100) rfl ?_
                      refine goL_s (st_bin rfl rfl rfl rfl trivial) rfl ?_
                      subst hy91
                      refine awp_ifL (b := (decide ((4000 : Int) < ((x71.getD (x79).toNat default).r.length : Int)))) rfl (fun y103 hy103 hb102 => ?_) (fun y103 hy103 hb102 => ?_)
                      · replace H := cond_t H hb102
                        subst hy103
                        refine awp_regionL fun y104 hy104 => ?_
                        refine goL_s (st_as (v := (PV.d true .nil)) rfl) rfl ?_
                        refine goL_s (st_as (v := (PV.d true (.int .i64 (4 : Int)))) rfl) rfl ?_
                        subst hy104
                        refine awp_ret ?_
                        refine blockA_r ?_
                        refine thenA_r ?_
                        refine thenA_r ?_
                        refine blockA_r ?_
                        refine blockA_r ?_
                        refine thenA_r ?_
                        refine thenA_r ?_
                        refine blockA_r ?_
                        refine thenA_r ?_
                        obtain rfl := Option.some.inj H
                        exact retnG (ds := [.nil, (.int .i64 (4 : Int))]) (by decide) (ResL.cons (res_t (x := (PV.d true .nil)) (d := .nil) rfl rfl) (ResL.cons (res_t (x := (PV.d true (.int .i64 (4 : Int)))) (d := (.int .i64 (4 : Int))) rfl rfl) ResL.nil)) (fun id hid => (hpL_low (Nat.lt_of_lt_of_le hid hN0)).trans (hlow82 id hid)) ⟨rfl, rfl⟩ (.inr rfl)
                      · replace H := cond_f H hb102
                        subst hy103
                        refine awp_skip ?_
                        refine blockA_n ?_
                        refine thenA_n ?_
                        subst hy90
                        refine awp_regionL1 ?_
                        refine goL_s (st_mv (v := (PV.d true (.int .i64 x79))) rfl) rfl ?_
                        refine goL_s (st_bin rfl rfl rfl rfl trivial) rfl ?_
                        refine goL_s (st_as (v := (PV.d true (.int .i64 (IntKind.wrap .i64 (x79 + (1 : Int)))))) rfl) rfl ?_
                        refine thenA_n ?_
                        refine ⟨m3, Nat.lt_succ_self _, ?_⟩
                        unfold J8_3
                        exact ⟨_, (IntKind.wrap .i64 (x79 + (1 : Int))), Gh.join ⟨rfl, rfl, rfl, rfl, trivial⟩ trivial, fun id hid => (hpL_low (Nat.lt_of_lt_of_le hid hN0)).trans (hlow82 id hid), (hpL_low hid1).trans hc84, hW85.low hFt, H⟩
                    · replace H := cond_f H hb88
                      subst hy89
                      refine awp_exit ?_
                      refine thenA_e ?_
                      refine thenA_e ?_
                      refine blockA_h ?_
                      refine blockA_n ?_
                      refine thenA_n ?_
                      subst hy63
                      refine awp_regionL1 ?_
                      refine goL_s (st_mv (v := (PV.d true (.int .i64 x49))) rfl) rfl ?_
                      refine goL_s (st_bin rfl rfl rfl rfl trivial) rfl ?_
                      refine goL_s (st_as (v := (PV.d true (.int .i64 (IntKind.wrap .i64 (x49 + (1 : Int)))))) rfl) rfl ?_
                      refine thenA_n ?_
                      refine ⟨m2, Nat.lt_succ_self _, ?_⟩
                      unfold J8_2
                      exact ⟨_, (IntKind.wrap .i64 (x49 + (1 : Int))), x71, Gh.join ⟨rfl, rfl, rfl, trivial⟩ trivial, fun id hid => (hpL_low (Nat.lt_of_lt_of_le hid hN0)).trans (hlow82 id hid), (hpL_low hid1).trans hc84, hW85.low hFt, H⟩
              · replace H := cond_f H hb61
                subst hy62
                refine awp_exit ?_
                refine thenA_e ?_
                refine thenA_e ?_
                refine blockA_h ?_
                refine thenA_n ?_
                subst hy47
                refine awp_regionL fun y105 hy105 => ?_
                refine goL_s (st_mv (v := (PV.ptr id1 w1 0)) rfl) rfl ?_
                refine goL_s (st_nil_p rfl (hpL_low' hid1 hc56)) rfl ?_
                refine goL_s (st_fa_p (o' := 4) fi_72_4 (by decide) rfl (hpL_low' hid1 hc56) rfl) rfl ?_
                refine goL_s (st_ld_p (c := (PV.own iC vC 0 k)) ty_30 rfl (hpL_low' hid1 hc56) rfl) rfl ?_
                refine goL_s (st_as (v := (PV.own iC vC 0 k)) rfl) rfl ?_
                refine goL_s (st_as (v := (PV.d true (.int .i64 (0 : Int)))) rfl) rfl ?_
                subst hy105
                refine awp_workEnd (t := 4) (WkF.low (N := N) (m := []) hW57 hFt) rfl h0F sz_3 sz_51 sz_36 fun hpx106 hE107 => ?_
                have hlow108 : ∀ id, id < N0 → hpx106 id = hp id := fun id hid => (hE107 id (hlF id hid)).trans ((hpL_low (Nat.lt_of_lt_of_le hid hN0)).trans (hlow54 id hid))
                refine awp_hp0 (N := N) ?_
                rw [← hkx] at H
                refine awp_ret ?_
                obtain rfl := Option.some.inj H
                exact retnG (ds := [(.lst k (colsPD x50)), (.int .i64 (0 : Int))]) (by decide) (ResL.cons (res_t (x := (PV.d true (.lst k (colsPD x50)))) (d := (.lst k (colsPD x50))) rfl rfl) (ResL.cons (res_t (x := (PV.d true (.int .i64 (0 : Int)))) (d := (.int .i64 (0 : Int))) rfl rfl) ResL.nil)) (fun id hid => (hpL_low (Nat.lt_of_lt_of_le hid hN0)).trans (hlow108 id hid)) ⟨rfl, rfl⟩ (.inr rfl)

end Go.Proofs.Ytfhpoffgnpgagaa
