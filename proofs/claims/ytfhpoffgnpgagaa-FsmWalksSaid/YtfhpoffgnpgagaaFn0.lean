/- Functions of the program: what each does, in plain Lean, and that it does. Laid by program. Condition of each: its model answers. -/
import Derived.Test.YtfhpoffgnpgagaaWTy
set_option linter.unusedSimpArgs false
set_option linter.unusedVariables false
namespace Go.Proofs.Ytfhpoffgnpgagaa
open Go Go.Proofs Go.Abs
set_option linter.unusedVariables false
set_option maxRecDepth 100000
def F14_K1 (x6 : Int) : Option (Int) :=
  some x6

def J14_1 (C : Ctx) (N : Nat) (hp : HP) (rr : Int) (s : ASt) : Prop :=
  ∃ (hpx : HP) (x6 : Int), Gh C s ⟨envL [(5, (PV.d true (.int .i64 x6)))], hpL N hpx []⟩ ∧ (∀ id, id < N → hpx id = hp id) ∧ F14_K1 x6 = some rr

def F14 (n : Nat) (x1 : Int) (x2 : Int) : Option (Int) :=
  gd (x2 ≠ 0) <|
  bif (decide ((Int.tmod x1 x2) < (0 : Int))) then
    F14_K1 (IntKind.wrap .i64 ((Int.tmod x1 x2) + x2))
  else
    F14_K1 (Int.tmod x1 x2)

set_option maxHeartbeats 4000000 in
theorem f14_calls {n : Nat} {x1 : Int} {x2 : Int} {r : Int} (H : F14 n x1 x2 = some r) (N : Nat) (hp : HP) : ACalls Try.prog 14 N [(PV.d true (.int .i64 x1)), (PV.d true (.int .i64 x2))] hp fun r' hp' => r' = (PV.d true (.int .i64 r)) ∧ hp' = hp := by
  unfold F14 at H
  refine acalls_body Try.func14 rfl rfl Try.ntmps14 (by simp) fun X hX => ?_
  refine awp_start (l := [(0, (PV.d true (.int .i64 x1))), (1, (PV.d true (.int .i64 x2)))]) (N := N) ⟨rfl, rfl, trivial⟩ ?_
  have hlow0 : ∀ id, id < N → hp id = hp id := fun _ _ => rfl
  refine awp_regionL fun y3 hy3 => ?_
  refine goL_s (st_as (v := (PV.d true (.int .i64 (0 : Int)))) rfl) rfl ?_
  subst hy3
  refine awp_regionL fun y4 hy4 => ?_
  refine goL_s (st_mv (v := (PV.d true (.int .i64 x1))) rfl) rfl ?_
  refine goL_s (st_mv (v := (PV.d true (.int .i64 x2))) rfl) rfl ?_
  obtain ⟨g5, H⟩ := gd_out H
  refine goL_s (st_bin rfl rfl rfl rfl g5) rfl ?_
  refine goL_s (st_as (v := (PV.d true (.int .i64 (Int.tmod x1 x2)))) rfl) rfl ?_
  subst hy4
  refine awp_cut (J14_1 (mkC 15 N Try.prog hp X) N hp r) ?_ ?_
  · refine awp_regionL fun y11 hy11 => ?_
    refine goL_s (st_mv (v := (PV.d true (.int .i64 (Int.tmod x1 x2)))) rfl) rfl ?_
    refine goL_s (st_bin rfl rfl rfl rfl trivial) rfl ?_
    subst hy11
    refine awp_ifL (b := (decide ((Int.tmod x1 x2) < (0 : Int)))) rfl (fun y13 hy13 hb12 => ?_) (fun y13 hy13 hb12 => ?_)
    · replace H := cond_t H hb12
      subst hy13
      refine awp_regionL1 ?_
      refine goL_s (st_mv (v := (PV.d true (.int .i64 (Int.tmod x1 x2)))) rfl) rfl ?_
      refine goL_s (st_mv (v := (PV.d true (.int .i64 x2))) rfl) rfl ?_
      refine goL_s (st_bin rfl rfl rfl rfl trivial) rfl ?_
      refine goL_s (st_as (v := (PV.d true (.int .i64 (IntKind.wrap .i64 ((Int.tmod x1 x2) + x2))))) rfl) rfl ?_
      refine thenA_n ?_
      unfold J14_1
      exact ⟨_, (IntKind.wrap .i64 ((Int.tmod x1 x2) + x2)), Gh.join ⟨rfl, trivial⟩ trivial, fun id hid => (hpL_low hid).trans (hlow0 id hid), H⟩
    · replace H := cond_f H hb12
      subst hy13
      refine awp_skip ?_
      refine thenA_n ?_
      unfold J14_1
      exact ⟨_, (Int.tmod x1 x2), Gh.join ⟨rfl, trivial⟩ trivial, fun id hid => (hpL_low hid).trans (hlow0 id hid), H⟩
  · intro s hJ
    unfold J14_1 at hJ
    obtain ⟨hpx7, x6, hG9, hlow8, H⟩ := hJ
    unfold F14_K1 at H
    refine awp_gh hG9 ?_
    clear hG9
    refine awp_regionL fun y10 hy10 => ?_
    refine goL_s (st_mv (v := (PV.d true (.int .i64 x6))) rfl) rfl ?_
    refine goL_s (st_as (v := (PV.d true (.int .i64 x6))) rfl) rfl ?_
    subst hy10
    refine awp_ret ?_
    obtain rfl := Option.some.inj H
    exact ret1 (res_t (x := (PV.d true (.int .i64 x6))) (d := (.int .i64 x6)) rfl rfl) (fun id hid => (hpL_low hid).trans (hlow8 id hid)) (fun _ _ => rfl) lowOK_same ⟨rfl, rfl⟩ (.inr rfl)

def F50_K1 (x6 : Int) : Option (Int) :=
  some x6

def J50_1 (C : Ctx) (N : Nat) (hp : HP) (rr : Int) (s : ASt) : Prop :=
  ∃ (hpx : HP) (x6 : Int), Gh C s ⟨envL [(5, (PV.d true (.int .i64 x6)))], hpL N hpx []⟩ ∧ (∀ id, id < N → hpx id = hp id) ∧ F50_K1 x6 = some rr

def F50 (n : Nat) (x1 : Int) (x2 : Int) : Option (Int) :=
  gd (x2 ≠ 0) <|
  bif (decide ((Int.tmod x1 x2) < (0 : Int))) then
    F50_K1 (IntKind.wrap .i64 ((Int.tmod x1 x2) + x2))
  else
    F50_K1 (Int.tmod x1 x2)

set_option maxHeartbeats 4000000 in
theorem f50_calls {n : Nat} {x1 : Int} {x2 : Int} {r : Int} (H : F50 n x1 x2 = some r) (N : Nat) (hp : HP) : ACalls Try.prog 50 N [(PV.d true (.int .i64 x1)), (PV.d true (.int .i64 x2))] hp fun r' hp' => r' = (PV.d true (.int .i64 r)) ∧ hp' = hp := by
  unfold F50 at H
  refine acalls_body Try.func50 rfl rfl Try.ntmps50 (by simp) fun X hX => ?_
  refine awp_start (l := [(0, (PV.d true (.int .i64 x1))), (1, (PV.d true (.int .i64 x2)))]) (N := N) ⟨rfl, rfl, trivial⟩ ?_
  have hlow0 : ∀ id, id < N → hp id = hp id := fun _ _ => rfl
  refine awp_regionL fun y3 hy3 => ?_
  refine goL_s (st_as (v := (PV.d true (.int .i64 (0 : Int)))) rfl) rfl ?_
  subst hy3
  refine awp_regionL fun y4 hy4 => ?_
  refine goL_s (st_mv (v := (PV.d true (.int .i64 x1))) rfl) rfl ?_
  refine goL_s (st_mv (v := (PV.d true (.int .i64 x2))) rfl) rfl ?_
  obtain ⟨g5, H⟩ := gd_out H
  refine goL_s (st_bin rfl rfl rfl rfl g5) rfl ?_
  refine goL_s (st_as (v := (PV.d true (.int .i64 (Int.tmod x1 x2)))) rfl) rfl ?_
  subst hy4
  refine awp_cut (J50_1 (mkC 15 N Try.prog hp X) N hp r) ?_ ?_
  · refine awp_regionL fun y11 hy11 => ?_
    refine goL_s (st_mv (v := (PV.d true (.int .i64 (Int.tmod x1 x2)))) rfl) rfl ?_
    refine goL_s (st_bin rfl rfl rfl rfl trivial) rfl ?_
    subst hy11
    refine awp_ifL (b := (decide ((Int.tmod x1 x2) < (0 : Int)))) rfl (fun y13 hy13 hb12 => ?_) (fun y13 hy13 hb12 => ?_)
    · replace H := cond_t H hb12
      subst hy13
      refine awp_regionL1 ?_
      refine goL_s (st_mv (v := (PV.d true (.int .i64 (Int.tmod x1 x2)))) rfl) rfl ?_
      refine goL_s (st_mv (v := (PV.d true (.int .i64 x2))) rfl) rfl ?_
      refine goL_s (st_bin rfl rfl rfl rfl trivial) rfl ?_
      refine goL_s (st_as (v := (PV.d true (.int .i64 (IntKind.wrap .i64 ((Int.tmod x1 x2) + x2))))) rfl) rfl ?_
      refine thenA_n ?_
      unfold J50_1
      exact ⟨_, (IntKind.wrap .i64 ((Int.tmod x1 x2) + x2)), Gh.join ⟨rfl, trivial⟩ trivial, fun id hid => (hpL_low hid).trans (hlow0 id hid), H⟩
    · replace H := cond_f H hb12
      subst hy13
      refine awp_skip ?_
      refine thenA_n ?_
      unfold J50_1
      exact ⟨_, (Int.tmod x1 x2), Gh.join ⟨rfl, trivial⟩ trivial, fun id hid => (hpL_low hid).trans (hlow0 id hid), H⟩
  · intro s hJ
    unfold J50_1 at hJ
    obtain ⟨hpx7, x6, hG9, hlow8, H⟩ := hJ
    unfold F50_K1 at H
    refine awp_gh hG9 ?_
    clear hG9
    refine awp_regionL fun y10 hy10 => ?_
    refine goL_s (st_mv (v := (PV.d true (.int .i64 x6))) rfl) rfl ?_
    refine goL_s (st_as (v := (PV.d true (.int .i64 x6))) rfl) rfl ?_
    subst hy10
    refine awp_ret ?_
    obtain rfl := Option.some.inj H
    exact ret1 (res_t (x := (PV.d true (.int .i64 x6))) (d := (.int .i64 x6)) rfl rfl) (fun id hid => (hpL_low hid).trans (hlow8 id hid)) (fun _ _ => rfl) lowOK_same ⟨rfl, rfl⟩ (.inr rfl)

def F51_K2 (x3 : List UInt8) (x17 : Bool) : Option (Int) :=
  bif x17 then
    some (14 : Int)
  else
    bif (decide ((100 : Int) < ((x3).length : Int))) then
      some (5 : Int)
    else
      some (0 : Int)

def J51_2 (C : Ctx) (N : Nat) (hp : HP) (x3 : List UInt8) (x2 : Int) (x4 : PD) (rr : Int) (s : ASt) : Prop :=
  ∃ (hpx : HP) (v18 : Nat) (x17 : Bool), Gh C s ⟨envL [(3, (PV.ptr (N + 3) v18 0)), (28, (PV.d true (.bool x17)))], hpL N hpx [(3, (v18, some (.cells 65 [(PV.d true (.int .i64 x2)), (PV.d true (.str x3)), (PV.d true x4)])))]⟩ ∧ (∀ id, id < N → hpx id = hp id) ∧ F51_K2 x3 x17 = some rr

def F51_K1 (x1 : Int) (x2 : Int) (x3 : List UInt8) (x9 : Bool) : Option (Int) :=
  bif x9 then
    some (13 : Int)
  else
    bif (x1 == (1 : Int)) then
      bif (decide (x2 < (0 : Int))) then
        F51_K2 x3 true
      else
        bif (decide ((1 : Int) < x2)) then
          F51_K2 x3 true
        else
          bif (x1 == (2 : Int)) then
            bif (decide (x2 < ((-2147483648) : Int))) then
              F51_K2 x3 true
            else
              F51_K2 x3 (decide ((2147483647 : Int) < x2))
          else
            F51_K2 x3 false
    else
      bif (x1 == (2 : Int)) then
        bif (decide (x2 < ((-2147483648) : Int))) then
          F51_K2 x3 true
        else
          F51_K2 x3 (decide ((2147483647 : Int) < x2))
      else
        F51_K2 x3 false

def J51_1 (C : Ctx) (N : Nat) (hp : HP) (x1 : Int) (x2 : Int) (x3 : List UInt8) (x4 : PD) (rr : Int) (s : ASt) : Prop :=
  ∃ (hpx : HP) (v10 : Nat) (x9 : Bool), Gh C s ⟨envL [(0, (PV.d true (.int .i64 x1))), (3, (PV.ptr (N + 3) v10 0)), (5, (PV.d true (.bool x9)))], hpL N hpx [(3, (v10, some (.cells 65 [(PV.d true (.int .i64 x2)), (PV.d true (.str x3)), (PV.d true x4)])))]⟩ ∧ (∀ id, id < N → hpx id = hp id) ∧ F51_K1 x1 x2 x3 x9 = some rr

def F51 (n : Nat) (x1 : Int) (x2 : Int) (x3 : List UInt8) (x4 : PD) : Option (Int) :=
  gd (isSlD x4 = true) <|
  gd (isSlD x4 = true) <|
  bif (decide ((0 : Int) < (lenN x4 : Int))) then
    F51_K1 x1 x2 x3 true
  else
    bif (x1 == (4 : Int)) then
      bif (x2 != (0 : Int)) then
        F51_K1 x1 x2 x3 true
      else
        bif (x1 != (4 : Int)) then
          F51_K1 x1 x2 x3 (!(x3 == ([] : List UInt8)))
        else
          F51_K1 x1 x2 x3 false
    else
      bif (x1 != (4 : Int)) then
        F51_K1 x1 x2 x3 (!(x3 == ([] : List UInt8)))
      else
        F51_K1 x1 x2 x3 false

set_option maxHeartbeats 4000000 in
theorem f51_calls {n : Nat} {x1 : Int} {x2 : Int} {x3 : List UInt8} {x4 : PD} {r : Int} (H : F51 n x1 x2 x3 x4 = some r) (N : Nat) (hp : HP) : ACalls Try.prog 51 N [(PV.d true (.int .i64 x1)), (PV.agg [(PV.d true (.int .i64 x2)), (PV.d true (.str x3)), (PV.d true x4)])] hp fun r' hp' => r' = (PV.d true (.int .i64 r)) ∧ hp' = hp := by
  unfold F51 at H
  refine acalls_body Try.func51 rfl rfl Try.ntmps51 (by simp) fun X hX => ?_
  refine awp_start (l := [(0, (PV.d true (.int .i64 x1))), (1, (PV.agg [(PV.d true (.int .i64 x2)), (PV.d true (.str x3)), (PV.d true x4)]))]) (N := N) ⟨rfl, rfl, trivial⟩ ?_
  have hlow0 : ∀ id, id < N → hp id = hp id := fun _ _ => rfl
  refine awp_regionL fun y5 hy5 => ?_
  obtain ⟨g6, H⟩ := gd_out H
  refine goL_n (d' := 3) (st_box (v := (PV.agg [(PV.d true (.int .i64 x2)), (PV.d true (.str x3)), (PV.d true x4)])) (cs := [(PV.d true (.int .i64 x2)), (PV.d true (.str x3)), (PV.d true x4)]) rfl rfl ⟨rfl, rfl, oneSl g6, trivial⟩) rfl fun v7 => ?_
  refine goL_s (st_as (v := (PV.d true (.int .i64 (0 : Int)))) rfl) rfl ?_
  subst hy5
  refine awp_hide fun y8 hy8 => ?_
  refine awp_block ?_
  refine awp_cut (J51_1 (mkC 60 N Try.prog hp X) N hp x1 x2 x3 x4 r) ?_ ?_
  · refine awp_regionL1 ?_
    refine goL_s (st_fa_p (o' := 2) fi_65_2 (by decide) rfl hpL_hit rfl) rfl ?_
    refine goL_s (st_ld_p (c := (PV.d true x4)) ty_63 rfl hpL_hit rfl) rfl ?_
    obtain ⟨g37, H⟩ := gd_out H
    refine goL_s (st_len_d (id := 0) sl_63 rfl g37) rfl ?_
    refine goL_s (st_bin rfl rfl rfl rfl trivial) rfl ?_
    refine goL_s (st_mv (v := (PV.d true (.bool (decide ((0 : Int) < (lenN x4 : Int)))))) rfl) rfl ?_
    refine goL_fork (decide ((0 : Int) < (lenN x4 : Int))) (fun hb38 => ?_) (fun hb38 => ?_)
    · replace H := cond_t H hb38
      refine goL_gF rfl rfl hb38 rfl ?_
      refine goL_gF rfl rfl hb38 rfl ?_
      refine goL_gF rfl rfl hb38 rfl ?_
      refine goL_gU rfl rfl rfl ?_
      refine goL_gU rfl rfl rfl ?_
      refine goL_gU rfl rfl rfl ?_
      refine goL_gF rfl rfl hb38 rfl ?_
      refine goL_s (st_pickT (v := (PV.d true (.bool true))) rfl hb38 rfl) rfl ?_
      refine goL_s (st_mv (v := (PV.d true (.bool true))) rfl) rfl ?_
      refine goL_gF rfl rfl rfl rfl ?_
      refine goL_gF rfl rfl rfl rfl ?_
      refine goL_gF rfl rfl rfl rfl ?_
      refine goL_gU rfl rfl rfl ?_
      refine goL_gU rfl rfl rfl ?_
      refine goL_gU rfl rfl rfl ?_
      refine goL_gF rfl rfl rfl rfl ?_
      refine goL_s (st_pickT (v := (PV.d true (.bool true))) rfl rfl rfl) rfl ?_
      refine goL_s (st_as (v := (PV.d true (.bool true))) rfl) rfl ?_
      refine thenA_n ?_
      unfold J51_1
      exact ⟨_, v7, true, Gh.join ⟨rfl, rfl, rfl, trivial⟩ ⟨hpL_hit, trivial⟩, fun id hid => (hpL_low hid).trans (hlow0 id hid), H⟩
    · replace H := cond_f H hb38
      refine goL_gT rfl rfl hb38 ?_
      refine goL_s (st_mv (v := (PV.d true (.int .i64 x1))) rfl) rfl ?_
      refine goL_gT rfl rfl hb38 ?_
      refine goL_s (st_bin rfl rfl rfl rfl trivial) rfl ?_
      refine goL_gT rfl rfl hb38 ?_
      refine goL_s (st_mv (v := (PV.d true (.bool (x1 == (4 : Int))))) rfl) rfl ?_
      refine goL_fork (x1 == (4 : Int)) (fun hb39 => ?_) (fun hb39 => ?_)
      · replace H := cond_t H hb39
        refine goL_gT rfl rfl hb39 ?_
        refine goL_s (st_fa_p (o' := 0) fi_65_0 (by decide) rfl hpL_hit rfl) rfl ?_
        refine goL_gT rfl rfl hb39 ?_
        refine goL_s (st_ld_p (c := (PV.d true (.int .i64 x2))) ty_3 rfl hpL_hit rfl) rfl ?_
        refine goL_gT rfl rfl hb39 ?_
        refine goL_s (st_bin rfl rfl rfl rfl trivial) rfl ?_
        refine goL_gT rfl rfl hb38 ?_
        refine goL_s (st_pickT (v := (PV.d true (.bool (x2 != (0 : Int))))) rfl hb39 rfl) rfl ?_
        refine goL_s (st_pickF (v := (PV.d true (.bool (x2 != (0 : Int))))) rfl hb38 rfl) rfl ?_
        refine goL_s (st_mv (v := (PV.d true (.bool (x2 != (0 : Int))))) rfl) rfl ?_
        refine goL_fork (x2 != (0 : Int)) (fun hb40 => ?_) (fun hb40 => ?_)
        · replace H := cond_t H hb40
          refine goL_gF rfl rfl hb40 rfl ?_
          refine goL_gF rfl rfl hb40 rfl ?_
          refine goL_gF rfl rfl hb40 rfl ?_
          refine goL_gU rfl rfl rfl ?_
          refine goL_gU rfl rfl rfl ?_
          refine goL_gU rfl rfl rfl ?_
          refine goL_gF rfl rfl hb40 rfl ?_
          refine goL_s (st_pickT (v := (PV.d true (.bool true))) rfl hb40 rfl) rfl ?_
          refine goL_s (st_as (v := (PV.d true (.bool true))) rfl) rfl ?_
          refine thenA_n ?_
          unfold J51_1
          exact ⟨_, v7, true, Gh.join ⟨rfl, rfl, rfl, trivial⟩ ⟨hpL_hit, trivial⟩, fun id hid => (hpL_low hid).trans (hlow0 id hid), H⟩
        · replace H := cond_f H hb40
          refine goL_gT rfl rfl hb40 ?_
          refine goL_s (st_mv (v := (PV.d true (.int .i64 x1))) rfl) rfl ?_
          refine goL_gT rfl rfl hb40 ?_
          refine goL_s (st_bin rfl rfl rfl rfl trivial) rfl ?_
          refine goL_gT rfl rfl hb40 ?_
          refine goL_s (st_mv (v := (PV.d true (.bool (x1 != (4 : Int))))) rfl) rfl ?_
          refine goL_fork (x1 != (4 : Int)) (fun hb41 => ?_) (fun hb41 => ?_)
          · replace H := cond_t H hb41
            refine goL_gT rfl rfl hb41 ?_
            refine goL_s (st_fa_p (o' := 1) fi_65_1 (by decide) rfl hpL_hit rfl) rfl ?_
            refine goL_gT rfl rfl hb41 ?_
            refine goL_s (st_ld_p (c := (PV.d true (.str x3))) ty_9 rfl hpL_hit rfl) rfl ?_
            refine goL_gT rfl rfl hb41 ?_
            refine goL_s (st_bstr rfl rfl rfl rfl trivial) rfl ?_
            refine goL_gT rfl rfl hb40 ?_
            refine goL_s (st_pickT (v := (PV.d true (.bool (!(x3 == ([] : List UInt8)))))) rfl hb41 rfl) rfl ?_
            refine goL_s (st_pickF (v := (PV.d true (.bool (!(x3 == ([] : List UInt8)))))) rfl hb40 rfl) rfl ?_
            refine goL_s (st_as (v := (PV.d true (.bool (!(x3 == ([] : List UInt8)))))) rfl) rfl ?_
            refine thenA_n ?_
            unfold J51_1
            exact ⟨_, v7, (!(x3 == ([] : List UInt8))), Gh.join ⟨rfl, rfl, rfl, trivial⟩ ⟨hpL_hit, trivial⟩, fun id hid => (hpL_low hid).trans (hlow0 id hid), H⟩
          · replace H := cond_f H hb41
            refine goL_gF rfl rfl hb41 rfl ?_
            refine goL_gF rfl rfl hb41 rfl ?_
            refine goL_gF rfl rfl hb41 rfl ?_
            refine goL_gT rfl rfl hb40 ?_
            refine goL_s (st_pickF (v := (PV.d true (.bool false))) rfl hb41 rfl) rfl ?_
            refine goL_s (st_pickF (v := (PV.d true (.bool false))) rfl hb40 rfl) rfl ?_
            refine goL_s (st_as (v := (PV.d true (.bool false))) rfl) rfl ?_
            refine thenA_n ?_
            unfold J51_1
            exact ⟨_, v7, false, Gh.join ⟨rfl, rfl, rfl, trivial⟩ ⟨hpL_hit, trivial⟩, fun id hid => (hpL_low hid).trans (hlow0 id hid), H⟩
      · replace H := cond_f H hb39
        refine goL_gF rfl rfl hb39 rfl ?_
        refine goL_gF rfl rfl hb39 rfl ?_
        refine goL_gF rfl rfl hb39 rfl ?_
        refine goL_gT rfl rfl hb38 ?_
        refine goL_s (st_pickF (v := (PV.d true (.bool false))) rfl hb39 rfl) rfl ?_
        refine goL_s (st_pickF (v := (PV.d true (.bool false))) rfl hb38 rfl) rfl ?_
        refine goL_s (st_mv (v := (PV.d true (.bool false))) rfl) rfl ?_
        refine goL_gT rfl rfl rfl ?_
        refine goL_s (st_mv (v := (PV.d true (.int .i64 x1))) rfl) rfl ?_
        refine goL_gT rfl rfl rfl ?_
        refine goL_s (st_bin rfl rfl rfl rfl trivial) rfl ?_
        refine goL_gT rfl rfl rfl ?_
        refine goL_s (st_mv (v := (PV.d true (.bool (x1 != (4 : Int))))) rfl) rfl ?_
        refine goL_fork (x1 != (4 : Int)) (fun hb42 => ?_) (fun hb42 => ?_)
        · replace H := cond_t H hb42
          refine goL_gT rfl rfl hb42 ?_
          refine goL_s (st_fa_p (o' := 1) fi_65_1 (by decide) rfl hpL_hit rfl) rfl ?_
          refine goL_gT rfl rfl hb42 ?_
          refine goL_s (st_ld_p (c := (PV.d true (.str x3))) ty_9 rfl hpL_hit rfl) rfl ?_
          refine goL_gT rfl rfl hb42 ?_
          refine goL_s (st_bstr rfl rfl rfl rfl trivial) rfl ?_
          refine goL_gT rfl rfl rfl ?_
          refine goL_s (st_pickT (v := (PV.d true (.bool (!(x3 == ([] : List UInt8)))))) rfl hb42 rfl) rfl ?_
          refine goL_s (st_pickF (v := (PV.d true (.bool (!(x3 == ([] : List UInt8)))))) rfl rfl rfl) rfl ?_
          refine goL_s (st_as (v := (PV.d true (.bool (!(x3 == ([] : List UInt8)))))) rfl) rfl ?_
          refine thenA_n ?_
          unfold J51_1
          exact ⟨_, v7, (!(x3 == ([] : List UInt8))), Gh.join ⟨rfl, rfl, rfl, trivial⟩ ⟨hpL_hit, trivial⟩, fun id hid => (hpL_low hid).trans (hlow0 id hid), H⟩
        · replace H := cond_f H hb42
          refine goL_gF rfl rfl hb42 rfl ?_
          refine goL_gF rfl rfl hb42 rfl ?_
          refine goL_gF rfl rfl hb42 rfl ?_
          refine goL_gT rfl rfl rfl ?_
          refine goL_s (st_pickF (v := (PV.d true (.bool false))) rfl hb42 rfl) rfl ?_
          refine goL_s (st_pickF (v := (PV.d true (.bool false))) rfl rfl rfl) rfl ?_
          refine goL_s (st_as (v := (PV.d true (.bool false))) rfl) rfl ?_
          refine thenA_n ?_
          unfold J51_1
          exact ⟨_, v7, false, Gh.join ⟨rfl, rfl, rfl, trivial⟩ ⟨hpL_hit, trivial⟩, fun id hid => (hpL_low hid).trans (hlow0 id hid), H⟩
  · intro s hJ
    unfold J51_1 at hJ
    obtain ⟨hpx11, v10, x9, hG13, hlow12, H⟩ := hJ
    unfold F51_K1 at H
    refine awp_gh hG13 ?_
    clear hG13
    refine awp_ifL (b := x9) rfl (fun y15 hy15 hb14 => ?_) (fun y15 hy15 hb14 => ?_)
    · replace H := cond_t H hb14
      subst hy15
      refine awp_regionL fun y16 hy16 => ?_
      refine goL_s (st_as (v := (PV.d true (.int .i64 (13 : Int)))) rfl) rfl ?_
      subst hy16
      refine awp_ret ?_
      refine blockA_r ?_
      refine thenA_r ?_
      obtain rfl := Option.some.inj H
      exact ret1 (res_t (x := (PV.d true (.int .i64 (13 : Int)))) (d := (.int .i64 (13 : Int))) rfl rfl) (fun id hid => (hpL_low hid).trans (hlow12 id hid)) (fun _ _ => rfl) lowOK_same ⟨rfl, rfl⟩ (.inr rfl)
    · replace H := cond_f H hb14
      subst hy15
      refine awp_cut (J51_2 (mkC 60 N Try.prog hp X) N hp x3 x2 x4 r) ?_ ?_
      · refine awp_regionL1 ?_
        refine goL_s (st_mv (v := (PV.d true (.int .i64 x1))) rfl) rfl ?_
        refine goL_s (st_bin rfl rfl rfl rfl trivial) rfl ?_
        refine goL_s (st_mv (v := (PV.d true (.bool (x1 == (1 : Int))))) rfl) rfl ?_
        refine goL_fork (x1 == (1 : Int)) (fun hb30 => ?_) (fun hb30 => ?_)
        · replace H := cond_t H hb30
          refine goL_gT rfl rfl hb30 ?_
          refine goL_s (st_fa_p (o' := 0) fi_65_0 (by decide) rfl hpL_hit rfl) rfl ?_
          refine goL_gT rfl rfl hb30 ?_
          refine goL_s (st_ld_p (c := (PV.d true (.int .i64 x2))) ty_3 rfl hpL_hit rfl) rfl ?_
          refine goL_gT rfl rfl hb30 ?_
          refine goL_s (st_bin rfl rfl rfl rfl trivial) rfl ?_
          refine goL_gT rfl rfl hb30 ?_
          refine goL_s (st_mv (v := (PV.d true (.bool (decide (x2 < (0 : Int)))))) rfl) rfl ?_
          refine goL_fork (decide (x2 < (0 : Int))) (fun hb31 => ?_) (fun hb31 => ?_)
          · replace H := cond_t H hb31
            refine goL_gF rfl rfl hb31 rfl ?_
            refine goL_gF rfl rfl hb31 rfl ?_
            refine goL_gF rfl rfl hb31 rfl ?_
            refine goL_gT rfl rfl hb30 ?_
            refine goL_s (st_pickT (v := (PV.d true (.bool true))) rfl hb31 rfl) rfl ?_
            refine goL_s (st_pickT (v := (PV.d true (.bool true))) rfl hb30 rfl) rfl ?_
            refine goL_s (st_mv (v := (PV.d true (.bool true))) rfl) rfl ?_
            refine goL_gF rfl rfl rfl rfl ?_
            refine goL_gF rfl rfl rfl rfl ?_
            refine goL_gF rfl rfl rfl rfl ?_
            refine goL_gU rfl rfl rfl ?_
            refine goL_gU rfl rfl rfl ?_
            refine goL_gU rfl rfl rfl ?_
            refine goL_gU rfl rfl rfl ?_
            refine goL_gU rfl rfl rfl ?_
            refine goL_gU rfl rfl rfl ?_
            refine goL_gU rfl rfl rfl ?_
            refine goL_gU rfl rfl rfl ?_
            refine goL_gF rfl rfl rfl rfl ?_
            refine goL_s (st_pickT (v := (PV.d true (.bool true))) rfl rfl rfl) rfl ?_
            refine goL_s (st_as (v := (PV.d true (.bool true))) rfl) rfl ?_
            refine thenA_n ?_
            unfold J51_2
            exact ⟨_, v10, true, Gh.join ⟨rfl, rfl, trivial⟩ ⟨hpL_hit, trivial⟩, fun id hid => (hpL_low hid).trans (hlow12 id hid), H⟩
          · replace H := cond_f H hb31
            refine goL_gT rfl rfl hb31 ?_
            refine goL_s (st_fa_p (o' := 0) fi_65_0 (by decide) rfl hpL_hit rfl) rfl ?_
            refine goL_gT rfl rfl hb31 ?_
            refine goL_s (st_ld_p (c := (PV.d true (.int .i64 x2))) ty_3 rfl hpL_hit rfl) rfl ?_
            refine goL_gT rfl rfl hb31 ?_
            refine goL_s (st_bin rfl rfl rfl rfl trivial) rfl ?_
            refine goL_gT rfl rfl hb30 ?_
            refine goL_s (st_pickF (v := (PV.d true (.bool (decide ((1 : Int) < x2))))) rfl hb31 rfl) rfl ?_
            refine goL_s (st_pickT (v := (PV.d true (.bool (decide ((1 : Int) < x2))))) rfl hb30 rfl) rfl ?_
            refine goL_s (st_mv (v := (PV.d true (.bool (decide ((1 : Int) < x2))))) rfl) rfl ?_
            refine goL_fork (decide ((1 : Int) < x2)) (fun hb32 => ?_) (fun hb32 => ?_)
            · replace H := cond_t H hb32
              refine goL_gF rfl rfl hb32 rfl ?_
              refine goL_gF rfl rfl hb32 rfl ?_
              refine goL_gF rfl rfl hb32 rfl ?_
              refine goL_gU rfl rfl rfl ?_
              refine goL_gU rfl rfl rfl ?_
              refine goL_gU rfl rfl rfl ?_
              refine goL_gU rfl rfl rfl ?_
              refine goL_gU rfl rfl rfl ?_
              refine goL_gU rfl rfl rfl ?_
              refine goL_gU rfl rfl rfl ?_
              refine goL_gU rfl rfl rfl ?_
              refine goL_gF rfl rfl hb32 rfl ?_
              refine goL_s (st_pickT (v := (PV.d true (.bool true))) rfl hb32 rfl) rfl ?_
              refine goL_s (st_as (v := (PV.d true (.bool true))) rfl) rfl ?_
              refine thenA_n ?_
              unfold J51_2
              exact ⟨_, v10, true, Gh.join ⟨rfl, rfl, trivial⟩ ⟨hpL_hit, trivial⟩, fun id hid => (hpL_low hid).trans (hlow12 id hid), H⟩
            · replace H := cond_f H hb32
              refine goL_gT rfl rfl hb32 ?_
              refine goL_s (st_mv (v := (PV.d true (.int .i64 x1))) rfl) rfl ?_
              refine goL_gT rfl rfl hb32 ?_
              refine goL_s (st_bin rfl rfl rfl rfl trivial) rfl ?_
              refine goL_gT rfl rfl hb32 ?_
              refine goL_s (st_mv (v := (PV.d true (.bool (x1 == (2 : Int))))) rfl) rfl ?_
              refine goL_fork (x1 == (2 : Int)) (fun hb33 => ?_) (fun hb33 => ?_)
              · replace H := cond_t H hb33
                refine goL_gT rfl rfl hb33 ?_
                refine goL_s (st_fa_p (o' := 0) fi_65_0 (by decide) rfl hpL_hit rfl) rfl ?_
                refine goL_gT rfl rfl hb33 ?_
                refine goL_s (st_ld_p (c := (PV.d true (.int .i64 x2))) ty_3 rfl hpL_hit rfl) rfl ?_
                refine goL_gT rfl rfl hb33 ?_
                refine goL_s (st_bin rfl rfl rfl rfl trivial) rfl ?_
                refine goL_gT rfl rfl hb33 ?_
                refine goL_s (st_mv (v := (PV.d true (.bool (decide (x2 < ((-2147483648) : Int)))))) rfl) rfl ?_
                refine goL_fork (decide (x2 < ((-2147483648) : Int))) (fun hb34 => ?_) (fun hb34 => ?_)
                · replace H := cond_t H hb34
                  refine goL_gF rfl rfl hb34 rfl ?_
                  refine goL_gF rfl rfl hb34 rfl ?_
                  refine goL_gF rfl rfl hb34 rfl ?_
                  refine goL_gT rfl rfl hb33 ?_
                  refine goL_s (st_pickT (v := (PV.d true (.bool true))) rfl hb34 rfl) rfl ?_
                  refine goL_gT rfl rfl hb32 ?_
                  refine goL_s (st_pickT (v := (PV.d true (.bool true))) rfl hb33 rfl) rfl ?_
                  refine goL_s (st_pickF (v := (PV.d true (.bool true))) rfl hb32 rfl) rfl ?_
                  refine goL_s (st_as (v := (PV.d true (.bool true))) rfl) rfl ?_
                  refine thenA_n ?_
                  unfold J51_2
                  exact ⟨_, v10, true, Gh.join ⟨rfl, rfl, trivial⟩ ⟨hpL_hit, trivial⟩, fun id hid => (hpL_low hid).trans (hlow12 id hid), H⟩
                · replace H := cond_f H hb34
                  refine goL_gT rfl rfl hb34 ?_
                  refine goL_s (st_fa_p (o' := 0) fi_65_0 (by decide) rfl hpL_hit rfl) rfl ?_
                  refine goL_gT rfl rfl hb34 ?_
                  refine goL_s (st_ld_p (c := (PV.d true (.int .i64 x2))) ty_3 rfl hpL_hit rfl) rfl ?_
                  refine goL_gT rfl rfl hb34 ?_
                  refine goL_s (st_bin rfl rfl rfl rfl trivial) rfl ?_
                  refine goL_gT rfl rfl hb33 ?_
                  refine goL_s (st_pickF (v := (PV.d true (.bool (decide ((2147483647 : Int) < x2))))) rfl hb34 rfl) rfl ?_
                  refine goL_gT rfl rfl hb32 ?_
                  refine goL_s (st_pickT (v := (PV.d true (.bool (decide ((2147483647 : Int) < x2))))) rfl hb33 rfl) rfl ?_
                  refine goL_s (st_pickF (v := (PV.d true (.bool (decide ((2147483647 : Int) < x2))))) rfl hb32 rfl) rfl ?_
                  refine goL_s (st_as (v := (PV.d true (.bool (decide ((2147483647 : Int) < x2))))) rfl) rfl ?_
                  refine thenA_n ?_
                  unfold J51_2
                  exact ⟨_, v10, (decide ((2147483647 : Int) < x2)), Gh.join ⟨rfl, rfl, trivial⟩ ⟨hpL_hit, trivial⟩, fun id hid => (hpL_low hid).trans (hlow12 id hid), H⟩
              · replace H := cond_f H hb33
                refine goL_gF rfl rfl hb33 rfl ?_
                refine goL_gF rfl rfl hb33 rfl ?_
                refine goL_gF rfl rfl hb33 rfl ?_
                refine goL_gF rfl rfl hb33 rfl ?_
                refine goL_gU rfl rfl rfl ?_
                refine goL_gU rfl rfl rfl ?_
                refine goL_gU rfl rfl rfl ?_
                refine goL_gF rfl rfl hb33 rfl ?_
                refine goL_gT rfl rfl hb32 ?_
                refine goL_s (st_pickF (v := (PV.d true (.bool false))) rfl hb33 rfl) rfl ?_
                refine goL_s (st_pickF (v := (PV.d true (.bool false))) rfl hb32 rfl) rfl ?_
                refine goL_s (st_as (v := (PV.d true (.bool false))) rfl) rfl ?_
                refine thenA_n ?_
                unfold J51_2
                exact ⟨_, v10, false, Gh.join ⟨rfl, rfl, trivial⟩ ⟨hpL_hit, trivial⟩, fun id hid => (hpL_low hid).trans (hlow12 id hid), H⟩
        · replace H := cond_f H hb30
          refine goL_gF rfl rfl hb30 rfl ?_
          refine goL_gF rfl rfl hb30 rfl ?_
          refine goL_gF rfl rfl hb30 rfl ?_
          refine goL_gF rfl rfl hb30 rfl ?_
          refine goL_gU rfl rfl rfl ?_
          refine goL_gU rfl rfl rfl ?_
          refine goL_gU rfl rfl rfl ?_
          refine goL_gF rfl rfl hb30 rfl ?_
          refine goL_s (st_pickF (v := (PV.d true (.bool false))) rfl hb30 rfl) rfl ?_
          refine goL_s (st_mv (v := (PV.d true (.bool false))) rfl) rfl ?_
          refine goL_gT rfl rfl rfl ?_
          refine goL_s (st_mv (v := (PV.d true (.int .i64 x1))) rfl) rfl ?_
          refine goL_gT rfl rfl rfl ?_
          refine goL_s (st_bin rfl rfl rfl rfl trivial) rfl ?_
          refine goL_gT rfl rfl rfl ?_
          refine goL_s (st_mv (v := (PV.d true (.bool (x1 == (2 : Int))))) rfl) rfl ?_
          refine goL_fork (x1 == (2 : Int)) (fun hb35 => ?_) (fun hb35 => ?_)
          · replace H := cond_t H hb35
            refine goL_gT rfl rfl hb35 ?_
            refine goL_s (st_fa_p (o' := 0) fi_65_0 (by decide) rfl hpL_hit rfl) rfl ?_
            refine goL_gT rfl rfl hb35 ?_
            refine goL_s (st_ld_p (c := (PV.d true (.int .i64 x2))) ty_3 rfl hpL_hit rfl) rfl ?_
            refine goL_gT rfl rfl hb35 ?_
            refine goL_s (st_bin rfl rfl rfl rfl trivial) rfl ?_
            refine goL_gT rfl rfl hb35 ?_
            refine goL_s (st_mv (v := (PV.d true (.bool (decide (x2 < ((-2147483648) : Int)))))) rfl) rfl ?_
            refine goL_fork (decide (x2 < ((-2147483648) : Int))) (fun hb36 => ?_) (fun hb36 => ?_)
            · replace H := cond_t H hb36
              refine goL_gF rfl rfl hb36 rfl ?_
              refine goL_gF rfl rfl hb36 rfl ?_
              refine goL_gF rfl rfl hb36 rfl ?_
              refine goL_gT rfl rfl hb35 ?_
              refine goL_s (st_pickT (v := (PV.d true (.bool true))) rfl hb36 rfl) rfl ?_
              refine goL_gT rfl rfl rfl ?_
              refine goL_s (st_pickT (v := (PV.d true (.bool true))) rfl hb35 rfl) rfl ?_
              refine goL_s (st_pickF (v := (PV.d true (.bool true))) rfl rfl rfl) rfl ?_
              refine goL_s (st_as (v := (PV.d true (.bool true))) rfl) rfl ?_
              refine thenA_n ?_
              unfold J51_2
              exact ⟨_, v10, true, Gh.join ⟨rfl, rfl, trivial⟩ ⟨hpL_hit, trivial⟩, fun id hid => (hpL_low hid).trans (hlow12 id hid), H⟩
            · replace H := cond_f H hb36
              refine goL_gT rfl rfl hb36 ?_
              refine goL_s (st_fa_p (o' := 0) fi_65_0 (by decide) rfl hpL_hit rfl) rfl ?_
              refine goL_gT rfl rfl hb36 ?_
              refine goL_s (st_ld_p (c := (PV.d true (.int .i64 x2))) ty_3 rfl hpL_hit rfl) rfl ?_
              refine goL_gT rfl rfl hb36 ?_
              refine goL_s (st_bin rfl rfl rfl rfl trivial) rfl ?_
              refine goL_gT rfl rfl hb35 ?_
              refine goL_s (st_pickF (v := (PV.d true (.bool (decide ((2147483647 : Int) < x2))))) rfl hb36 rfl) rfl ?_
              refine goL_gT rfl rfl rfl ?_
              refine goL_s (st_pickT (v := (PV.d true (.bool (decide ((2147483647 : Int) < x2))))) rfl hb35 rfl) rfl ?_
              refine goL_s (st_pickF (v := (PV.d true (.bool (decide ((2147483647 : Int) < x2))))) rfl rfl rfl) rfl ?_
              refine goL_s (st_as (v := (PV.d true (.bool (decide ((2147483647 : Int) < x2))))) rfl) rfl ?_
              refine thenA_n ?_
              unfold J51_2
              exact ⟨_, v10, (decide ((2147483647 : Int) < x2)), Gh.join ⟨rfl, rfl, trivial⟩ ⟨hpL_hit, trivial⟩, fun id hid => (hpL_low hid).trans (hlow12 id hid), H⟩
          · replace H := cond_f H hb35
            refine goL_gF rfl rfl hb35 rfl ?_
            refine goL_gF rfl rfl hb35 rfl ?_
            refine goL_gF rfl rfl hb35 rfl ?_
            refine goL_gF rfl rfl hb35 rfl ?_
            refine goL_gU rfl rfl rfl ?_
            refine goL_gU rfl rfl rfl ?_
            refine goL_gU rfl rfl rfl ?_
            refine goL_gF rfl rfl hb35 rfl ?_
            refine goL_gT rfl rfl rfl ?_
            refine goL_s (st_pickF (v := (PV.d true (.bool false))) rfl hb35 rfl) rfl ?_
            refine goL_s (st_pickF (v := (PV.d true (.bool false))) rfl rfl rfl) rfl ?_
            refine goL_s (st_as (v := (PV.d true (.bool false))) rfl) rfl ?_
            refine thenA_n ?_
            unfold J51_2
            exact ⟨_, v10, false, Gh.join ⟨rfl, rfl, trivial⟩ ⟨hpL_hit, trivial⟩, fun id hid => (hpL_low hid).trans (hlow12 id hid), H⟩
      · intro s hJ
        unfold J51_2 at hJ
        obtain ⟨hpx19, v18, x17, hG21, hlow20, H⟩ := hJ
        unfold F51_K2 at H
        refine awp_gh hG21 ?_
        clear hG21
        refine awp_ifL (b := x17) rfl (fun y23 hy23 hb22 => ?_) (fun y23 hy23 hb22 => ?_)
        · replace H := cond_t H hb22
          subst hy23
          refine awp_regionL fun y24 hy24 => ?_
          refine goL_s (st_as (v := (PV.d true (.int .i64 (14 : Int)))) rfl) rfl ?_
          subst hy24
          refine awp_ret ?_
          refine blockA_r ?_
          refine thenA_r ?_
          obtain rfl := Option.some.inj H
          exact ret1 (res_t (x := (PV.d true (.int .i64 (14 : Int)))) (d := (.int .i64 (14 : Int))) rfl rfl) (fun id hid => (hpL_low hid).trans (hlow20 id hid)) (fun _ _ => rfl) lowOK_same ⟨rfl, rfl⟩ (.inr rfl)
        · replace H := cond_f H hb22
          subst hy23
          refine awp_regionL fun y25 hy25 => ?_
          refine goL_s (st_fa_p (o' := 1) fi_65_1 (by decide) rfl hpL_hit rfl) rfl ?_
          refine goL_s (st_ld_p (c := (PV.d true (.str x3))) ty_9 rfl hpL_hit rfl) rfl ?_
          refine goL_s (st_len_s st_9 rfl) rfl ?_
          refine goL_s (st_bin rfl rfl rfl rfl trivial) rfl ?_
          refine goL_s (st_as (v := (PV.d true (.bool (decide ((100 : Int) < ((x3).length : Int)))))) rfl) rfl ?_
          subst hy25
          refine awp_ifL (b := (decide ((100 : Int) < ((x3).length : Int)))) rfl (fun y27 hy27 hb26 => ?_) (fun y27 hy27 hb26 => ?_)
          · replace H := cond_t H hb26
            subst hy27
            refine awp_regionL fun y28 hy28 => ?_
            refine goL_s (st_as (v := (PV.d true (.int .i64 (5 : Int)))) rfl) rfl ?_
            subst hy28
            refine awp_ret ?_
            refine blockA_r ?_
            refine thenA_r ?_
            obtain rfl := Option.some.inj H
            exact ret1 (res_t (x := (PV.d true (.int .i64 (5 : Int)))) (d := (.int .i64 (5 : Int))) rfl rfl) (fun id hid => (hpL_low hid).trans (hlow20 id hid)) (fun _ _ => rfl) lowOK_same ⟨rfl, rfl⟩ (.inr rfl)
          · replace H := cond_f H hb26
            subst hy27
            refine awp_skip ?_
            refine blockA_n ?_
            refine thenA_n ?_
            subst hy8
            refine awp_regionL fun y29 hy29 => ?_
            refine goL_s (st_as (v := (PV.d true (.int .i64 (0 : Int)))) rfl) rfl ?_
            subst hy29
            refine awp_ret ?_
            obtain rfl := Option.some.inj H
            exact ret1 (res_t (x := (PV.d true (.int .i64 (0 : Int)))) (d := (.int .i64 (0 : Int))) rfl rfl) (fun id hid => (hpL_low hid).trans (hlow20 id hid)) (fun _ _ => rfl) lowOK_same ⟨rfl, rfl⟩ (.inr rfl)

def F34_K3 (lo2 : Int → Int → Option (Int)) (x40 : Int) (x53 : Int) : Option (Int) :=
  lo2 x53 (IntKind.wrap .i64 (x40 + (1 : Int)))

def J34_3 (C : Ctx) (N : Nat) (hp : HP) (lo2 : Int → Int → Option (Int)) (x40 : Int) (x1 : PD) (x2 : PD) (x3 : Int) (x4 : Int) (x5 : List UInt8) (x6 : PD) (rr : Int) (s : ASt) : Prop :=
  ∃ (hpx : HP) (v54 : Nat) (x53 : Int), Gh C s ⟨envL [(0, (PV.d true x1)), (1, (PV.d true x2)), (2, (PV.d true (.int .i64 x3))), (7, (PV.ptr (N + 7) v54 0)), (9, (PV.d true (.int .i64 x53))), (10, (PV.d true (.int .i64 x40)))], hpL N hpx [(7, (v54, some (.cells 65 [(PV.d true (.int .i64 x4)), (PV.d true (.str x5)), (PV.d true x6)])))]⟩ ∧ (∀ id, id < N → hpx id = hp id) ∧ F34_K3 lo2 x40 x53 = some rr

def F34_L5 (x6 : PD) (x39 : Int) (self : PD → PD → Int → Int → (List UInt8) → PD → Option (Int)) (x1 : PD) (x2 : PD) (x40 : Int) (lo2 : Int → Int → Option (Int)) : Nat → Int → Option (Int)
  | 0, _ => none
  | m5 + 1, x85 =>
    gd (isSlD ((((cellsD x6).drop ((x39).toNat * 1))).getD 0 .nil) = true) <|
    bif (decide (x85 < (lenN ((((cellsD x6).drop ((x39).toNat * 1))).getD 0 .nil) : Int))) then
      gd (idxOK 3 ((((cellsD x6).drop ((x39).toNat * 1))).getD 0 .nil) x85) <|
      gd (3 ≤ (((cellsD ((((cellsD x6).drop ((x39).toNat * 1))).getD 0 .nil)).drop ((x85).toNat * 3))).length) <|
      gd ((3 ≤ (((cellsD ((((cellsD x6).drop ((x39).toNat * 1))).getD 0 .nil)).drop ((x85).toNat * 3))).length) ∧ (isI .i64 ((((cellsD ((((cellsD x6).drop ((x39).toNat * 1))).getD 0 .nil)).drop ((x85).toNat * 3))).getD 0 .nil) = true) ∧ (isS ((((cellsD ((((cellsD x6).drop ((x39).toNat * 1))).getD 0 .nil)).drop ((x85).toNat * 3))).getD 1 .nil) = true) ∧ (isSlD ((((cellsD ((((cellsD x6).drop ((x39).toNat * 1))).getD 0 .nil)).drop ((x85).toNat * 3))).getD 2 .nil) = true)) <|
      bd (self x1 x2 x40 (intD ((((cellsD ((((cellsD x6).drop ((x39).toNat * 1))).getD 0 .nil)).drop ((x85).toNat * 3))).getD 0 .nil)) (strD ((((cellsD ((((cellsD x6).drop ((x39).toNat * 1))).getD 0 .nil)).drop ((x85).toNat * 3))).getD 1 .nil)) ((((cellsD ((((cellsD x6).drop ((x39).toNat * 1))).getD 0 .nil)).drop ((x85).toNat * 3))).getD 2 .nil)) fun x105 =>
      bif (x105 != (0 : Int)) then
        some x105
      else
        (F34_L5 x6 x39 self x1 x2 x40 lo2 m5) (IntKind.wrap .i64 (x85 + (1 : Int)))
    else
      F34_K3 lo2 x40 (IntKind.wrap .i64 (x39 + (1 : Int)))

def J34_5 (C : Ctx) (N : Nat) (hp : HP) (x6 : PD) (x39 : Int) (self : PD → PD → Int → Int → (List UInt8) → PD → Option (Int)) (x1 : PD) (x2 : PD) (x40 : Int) (lo2 : Int → Int → Option (Int)) (x3 : Int) (x4 : Int) (x5 : List UInt8) (rr : Int) (mm : Nat) (s : ASt) : Prop :=
  ∃ (hpx : HP) (v86 : Nat) (x85 : Int), Gh C s ⟨envL [(0, (PV.d true x1)), (1, (PV.d true x2)), (2, (PV.d true (.int .i64 x3))), (7, (PV.ptr (N + 7) v86 0)), (9, (PV.d true (.int .i64 (IntKind.wrap .i64 (x39 + (1 : Int)))))), (10, (PV.d true (.int .i64 x40))), (11, (PV.d true ((((cellsD x6).drop ((x39).toNat * 1))).getD 0 .nil))), (12, (PV.d true (.int .i64 x85)))], hpL N hpx [(7, (v86, some (.cells 65 [(PV.d true (.int .i64 x4)), (PV.d true (.str x5)), (PV.d true x6)])))]⟩ ∧ (∀ id, id < N → hpx id = hp id) ∧ F34_L5 x6 x39 self x1 x2 x40 lo2 mm x85 = some rr

def F34_K4 (x6 : PD) (x39 : Int) (self : PD → PD → Int → Int → (List UInt8) → PD → Option (Int)) (x1 : PD) (x2 : PD) (x40 : Int) (lo2 : Int → Int → Option (Int)) (n : Nat) (x70 : Bool) : Option (Int) :=
  bif x70 then
    some (13 : Int)
  else
    gd (isSlD ((((cellsD x6).drop ((x39).toNat * 1))).getD 0 .nil) = true) <|
    bif (decide ((50 : Int) < (lenN ((((cellsD x6).drop ((x39).toNat * 1))).getD 0 .nil) : Int))) then
      some (4 : Int)
    else
      F34_L5 x6 x39 self x1 x2 x40 lo2 n (0 : Int)

def J34_4 (C : Ctx) (N : Nat) (hp : HP) (x6 : PD) (x39 : Int) (self : PD → PD → Int → Int → (List UInt8) → PD → Option (Int)) (x1 : PD) (x2 : PD) (x40 : Int) (lo2 : Int → Int → Option (Int)) (n : Nat) (x3 : Int) (x4 : Int) (x5 : List UInt8) (rr : Int) (s : ASt) : Prop :=
  ∃ (hpx : HP) (v71 : Nat) (x70 : Bool), Gh C s ⟨envL [(0, (PV.d true x1)), (1, (PV.d true x2)), (2, (PV.d true (.int .i64 x3))), (7, (PV.ptr (N + 7) v71 0)), (9, (PV.d true (.int .i64 (IntKind.wrap .i64 (x39 + (1 : Int)))))), (10, (PV.d true (.int .i64 x40))), (11, (PV.d true ((((cellsD x6).drop ((x39).toNat * 1))).getD 0 .nil))), (67, (PV.d true (.bool x70)))], hpL N hpx [(7, (v71, some (.cells 65 [(PV.d true (.int .i64 x4)), (PV.d true (.str x5)), (PV.d true x6)])))]⟩ ∧ (∀ id, id < N → hpx id = hp id) ∧ F34_K4 x6 x39 self x1 x2 x40 lo2 n x70 = some rr

def F34_L2 (x1 : PD) (x2 : PD) (x3 : Int) (x6 : PD) (self : PD → PD → Int → Int → (List UInt8) → PD → Option (Int)) (n : Nat) : Nat → Int → Int → Option (Int)
  | 0, _, _ => none
  | m2 + 1, x39, x40 =>
    gd (isSlD x1 = true) <|
    bif (decide (x40 < (lenN x1 : Int))) then
      gd (idxOK 1 x2 x40) <|
      gd ((1 ≤ (((cellsD x2).drop ((x40).toNat * 1))).length) ∧ (isI .i64 ((((cellsD x2).drop ((x40).toNat * 1))).getD 0 .nil) = true)) <|
      bif ((intD ((((cellsD x2).drop ((x40).toNat * 1))).getD 0 .nil)) != x3) then
        F34_K3 (F34_L2 x1 x2 x3 x6 self n m2) x40 x39
      else
        gd (idxOK 1 x6 x39) <|
        gd (1 ≤ (((cellsD x6).drop ((x39).toNat * 1))).length) <|
        gd (idxOK 4 x1 x40) <|
        gd (1 ≤ (((cellsD x1).drop ((x40).toNat * 4))).length) <|
        gd ((1 ≤ (((((cellsD x1).drop ((x40).toNat * 4))).drop 1)).length) ∧ (isI .i64 ((((((cellsD x1).drop ((x40).toNat * 4))).drop 1)).getD 0 .nil) = true)) <|
        bif ((intD ((((((cellsD x1).drop ((x40).toNat * 4))).drop 1)).getD 0 .nil)) != (2 : Int)) then
          gd (isSlD ((((cellsD x6).drop ((x39).toNat * 1))).getD 0 .nil) = true) <|
          bif (decide ((1 : Int) < (lenN ((((cellsD x6).drop ((x39).toNat * 1))).getD 0 .nil) : Int))) then
            F34_K4 x6 x39 self x1 x2 x40 (F34_L2 x1 x2 x3 x6 self n m2) n true
          else
            gd (idxOK 4 x1 x40) <|
            gd (1 ≤ (((cellsD x1).drop ((x40).toNat * 4))).length) <|
            gd ((1 ≤ (((((cellsD x1).drop ((x40).toNat * 4))).drop 1)).length) ∧ (isI .i64 ((((((cellsD x1).drop ((x40).toNat * 4))).drop 1)).getD 0 .nil) = true)) <|
            bif ((intD ((((((cellsD x1).drop ((x40).toNat * 4))).drop 1)).getD 0 .nil)) == (0 : Int)) then
              gd (isSlD ((((cellsD x6).drop ((x39).toNat * 1))).getD 0 .nil) = true) <|
              F34_K4 x6 x39 self x1 x2 x40 (F34_L2 x1 x2 x3 x6 self n m2) n ((lenN ((((cellsD x6).drop ((x39).toNat * 1))).getD 0 .nil) : Int) != (1 : Int))
            else
              F34_K4 x6 x39 self x1 x2 x40 (F34_L2 x1 x2 x3 x6 self n m2) n false
        else
          gd (idxOK 4 x1 x40) <|
          gd (1 ≤ (((cellsD x1).drop ((x40).toNat * 4))).length) <|
          gd ((1 ≤ (((((cellsD x1).drop ((x40).toNat * 4))).drop 1)).length) ∧ (isI .i64 ((((((cellsD x1).drop ((x40).toNat * 4))).drop 1)).getD 0 .nil) = true)) <|
          bif ((intD ((((((cellsD x1).drop ((x40).toNat * 4))).drop 1)).getD 0 .nil)) == (0 : Int)) then
            gd (isSlD ((((cellsD x6).drop ((x39).toNat * 1))).getD 0 .nil) = true) <|
            F34_K4 x6 x39 self x1 x2 x40 (F34_L2 x1 x2 x3 x6 self n m2) n ((lenN ((((cellsD x6).drop ((x39).toNat * 1))).getD 0 .nil) : Int) != (1 : Int))
          else
            F34_K4 x6 x39 self x1 x2 x40 (F34_L2 x1 x2 x3 x6 self n m2) n false
    else
      some (0 : Int)

def J34_2 (C : Ctx) (N : Nat) (hp : HP) (x1 : PD) (x2 : PD) (x3 : Int) (x6 : PD) (self : PD → PD → Int → Int → (List UInt8) → PD → Option (Int)) (n : Nat) (x4 : Int) (x5 : List UInt8) (rr : Int) (mm : Nat) (s : ASt) : Prop :=
  ∃ (hpx : HP) (v41 : Nat) (x39 : Int) (x40 : Int), Gh C s ⟨envL [(0, (PV.d true x1)), (1, (PV.d true x2)), (2, (PV.d true (.int .i64 x3))), (7, (PV.ptr (N + 7) v41 0)), (9, (PV.d true (.int .i64 x39))), (10, (PV.d true (.int .i64 x40)))], hpL N hpx [(7, (v41, some (.cells 65 [(PV.d true (.int .i64 x4)), (PV.d true (.str x5)), (PV.d true x6)])))]⟩ ∧ (∀ id, id < N → hpx id = hp id) ∧ F34_L2 x1 x2 x3 x6 self n mm x39 x40 = some rr

def F34_K1 (x1 : PD) (x2 : PD) (x3 : Int) (x6 : PD) (self : PD → PD → Int → Int → (List UInt8) → PD → Option (Int)) (n : Nat) (x27 : Bool) : Option (Int) :=
  bif x27 then
    some (13 : Int)
  else
    F34_L2 x1 x2 x3 x6 self n n (0 : Int) (IntKind.wrap .i64 (x3 + (1 : Int)))

def J34_1 (C : Ctx) (N : Nat) (hp : HP) (x1 : PD) (x2 : PD) (x3 : Int) (x6 : PD) (self : PD → PD → Int → Int → (List UInt8) → PD → Option (Int)) (n : Nat) (x4 : Int) (x5 : List UInt8) (rr : Int) (s : ASt) : Prop :=
  ∃ (hpx : HP) (v28 : Nat) (x27 : Bool), Gh C s ⟨envL [(0, (PV.d true x1)), (1, (PV.d true x2)), (2, (PV.d true (.int .i64 x3))), (7, (PV.ptr (N + 7) v28 0)), (45, (PV.d true (.bool x27)))], hpL N hpx [(7, (v28, some (.cells 65 [(PV.d true (.int .i64 x4)), (PV.d true (.str x5)), (PV.d true x6)])))]⟩ ∧ (∀ id, id < N → hpx id = hp id) ∧ F34_K1 x1 x2 x3 x6 self n x27 = some rr

def F34 : Nat → PD → PD → Int → Int → (List UInt8) → PD → Option (Int)
  | 0, _, _, _, _, _, _ => none
  | n + 1, x1, x2, x3, x4, x5, x6 =>
    gd (isSlD x6 = true) <|
    gd (idxOK 4 x1 x3) <|
    gd (2 ≤ (((cellsD x1).drop ((x3).toNat * 4))).length) <|
    gd ((1 ≤ (((((cellsD x1).drop ((x3).toNat * 4))).drop 2)).length) ∧ (isI .i64 ((((((cellsD x1).drop ((x3).toNat * 4))).drop 2)).getD 0 .nil) = true)) <|
    bif ((intD ((((((cellsD x1).drop ((x3).toNat * 4))).drop 2)).getD 0 .nil)) != (0 : Int)) then
      gd (idxOK 4 x1 x3) <|
      gd (2 ≤ (((cellsD x1).drop ((x3).toNat * 4))).length) <|
      gd ((1 ≤ (((((cellsD x1).drop ((x3).toNat * 4))).drop 2)).length) ∧ (isI .i64 ((((((cellsD x1).drop ((x3).toNat * 4))).drop 2)).getD 0 .nil) = true)) <|
      bd (F51 n (intD ((((((cellsD x1).drop ((x3).toNat * 4))).drop 2)).getD 0 .nil)) x4 x5 x6) fun x24 =>
      some x24
    else
      bif (x4 != (0 : Int)) then
        F34_K1 x1 x2 x3 x6 (F34 n) n true
      else
        bif (!(x5 == ([] : List UInt8))) then
          F34_K1 x1 x2 x3 x6 (F34 n) n true
        else
          gd (isSlD x6 = true) <|
          gd (idxOK 4 x1 x3) <|
          gd (3 ≤ (((cellsD x1).drop ((x3).toNat * 4))).length) <|
          gd ((1 ≤ (((((cellsD x1).drop ((x3).toNat * 4))).drop 3)).length) ∧ (isI .i64 ((((((cellsD x1).drop ((x3).toNat * 4))).drop 3)).getD 0 .nil) = true)) <|
          F34_K1 x1 x2 x3 x6 (F34 n) n ((lenN x6 : Int) != (intD ((((((cellsD x1).drop ((x3).toNat * 4))).drop 3)).getD 0 .nil)))

set_option maxHeartbeats 4000000 in
theorem f34_calls : ∀ {n : Nat} {x1 : PD} {x2 : PD} {x3 : Int} {x4 : Int} {x5 : List UInt8} {x6 : PD} {r : Int} (H : F34 n x1 x2 x3 x4 x5 x6 = some r) (N : Nat) (hp : HP), ACalls Try.prog 34 N [(PV.d true x1), (PV.d true x2), (PV.d true (.int .i64 x3)), (PV.agg [(PV.d true (.int .i64 x4)), (PV.d true (.str x5)), (PV.d true x6)])] hp fun r' hp' => r' = (PV.d true (.int .i64 r)) ∧ hp' = hp := by
  intro n
  induction n with
  | zero => intro x1 x2 x3 x4 x5 x6 r H; cases H
  | succ n ih =>
    intro x1 x2 x3 x4 x5 x6 r H N hp
    rw [F34] at H
    refine acalls_body Try.func34 rfl rfl Try.ntmps34 (by simp) fun X hX => ?_
    refine awp_start (l := [(0, (PV.d true x1)), (1, (PV.d true x2)), (2, (PV.d true (.int .i64 x3))), (3, (PV.agg [(PV.d true (.int .i64 x4)), (PV.d true (.str x5)), (PV.d true x6)]))]) (N := N) ⟨rfl, rfl, rfl, rfl, trivial⟩ ?_
    have hlow0 : ∀ id, id < N → hp id = hp id := fun _ _ => rfl
    refine awp_regionL fun y7 hy7 => ?_
    obtain ⟨g8, H⟩ := gd_out H
    refine goL_n (d' := 7) (st_box (v := (PV.agg [(PV.d true (.int .i64 x4)), (PV.d true (.str x5)), (PV.d true x6)])) (cs := [(PV.d true (.int .i64 x4)), (PV.d true (.str x5)), (PV.d true x6)]) rfl rfl ⟨rfl, rfl, oneSl g8, trivial⟩) rfl fun v9 => ?_
    refine goL_s (st_as (v := (PV.d true (.int .i64 (0 : Int)))) rfl) rfl ?_
    subst hy7
    refine awp_hide fun y10 hy10 => ?_
    refine awp_regionL fun y11 hy11 => ?_
    refine goL_s (st_mv (v := (PV.d true x1)) rfl) rfl ?_
    refine goL_s (st_mv (v := (PV.d true (.int .i64 x3))) rfl) rfl ?_
    obtain ⟨g12, H⟩ := gd_out H
    refine goL_s (st_ia_d el_26 sz_61 (by decide) (y := x1) rfl rfl g12) rfl ?_
    obtain ⟨g13, H⟩ := gd_out H
    refine goL_s (st_fa_lp fi_61_2 (by decide) rfl g13) rfl ?_
    obtain ⟨⟨g14, g15⟩, H⟩ := gd_out H
    refine goL_s (st_ld_lp ty_3 rfl g14 (cI g15)) rfl ?_
    refine goL_s (st_bin rfl rfl rfl rfl trivial) rfl ?_
    subst hy11
    refine awp_ifL (b := ((intD ((((((cellsD x1).drop ((x3).toNat * 4))).drop 2)).getD 0 .nil)) != (0 : Int))) rfl (fun y17 hy17 hb16 => ?_) (fun y17 hy17 hb16 => ?_)
    · replace H := cond_t H hb16
      subst hy17
      refine awp_drawL 9 6 [] follows_any (by kernel_rfl) (by kernel_rfl) (by kernel_rfl) (by kernel_rfl) fun opsd19 Kd19 hod19 hKd19 => ?_
      refine goA_s trivial (st_mv (v := (PV.d true x1)) rfl) rfl fun rd0 => ?_
      refine goA_s trivial (st_mv (v := (PV.d true (.int .i64 x3))) rfl) rfl fun rd1 => ?_
      obtain ⟨g20, H⟩ := gd_out H
      refine goA_s trivial (st_ia_d el_26 sz_61 (by decide) (y := x1) rfl rfl g20) rfl fun rd2 => ?_
      obtain ⟨g21, H⟩ := gd_out H
      refine goA_s trivial (st_fa_lp fi_61_2 (by decide) rfl g21) rfl fun rd3 => ?_
      obtain ⟨⟨g22, g23⟩, H⟩ := gd_out H
      refine goA_s trivial (st_ld_lp ty_3 rfl g22 (cI g23)) rfl fun rd4 => ?_
      refine goA_s trivial (st_ldA_p (cs := [(PV.d true (.int .i64 x4)), (PV.d true (.str x5)), (PV.d true x6)]) ty_65 rfl hpL_hit (Nat.le_of_ble_eq_true rfl) rfl) rfl fun rd5 => ?_
      refine goA_nil ?_
      rw [hKd19]
      refine ⟨?_, goOps_goL ?_⟩
      · trivial
      obtain ⟨x24, c25, H⟩ := bd_out H
      refine goL_cp (args' := [(PV.d true (.int .i64 (intD ((((((cellsD x1).drop ((x3).toNat * 4))).drop 2)).getD 0 .nil)))), (PV.agg [(PV.d true (.int .i64 x4)), (PV.d true (.str x5)), (PV.d true x6)])]) (r := (PV.d true (.int .i64 x24))) rfl rfl ⟨Wk.refl, ⟨Wk.refl, trivial⟩⟩ enter_51 rfl (f51_calls c25 (N + 113) _) ?_
      refine goL_s (st_as (v := (PV.d true (.int .i64 x24))) rfl) rfl ?_
      refine awp_ret ?_
      refine thenA_r ?_
      obtain rfl := Option.some.inj H
      exact ret1 (res_t (x := (PV.d true (.int .i64 x24))) (d := (.int .i64 x24)) rfl rfl) (fun id hid => (hpL_low hid).trans (hlow0 id hid)) (fun _ _ => rfl) lowOK_same ⟨rfl, rfl⟩ (.inr rfl)
    · replace H := cond_f H hb16
      subst hy17
      refine awp_skip ?_
      refine thenA_n ?_
      subst hy10
      refine awp_hide fun y26 hy26 => ?_
      refine awp_cut (J34_1 (mkC 113 N Try.prog hp X) N hp x1 x2 x3 x6 (F34 n) n x4 x5 r) ?_ ?_
      · refine awp_drawL1 20 17 [] follows_any (by kernel_rfl) (by kernel_rfl) (by kernel_rfl) (by kernel_rfl) fun opsd131 Kd131 hod131 hKd131 => ?_
        refine goA_s trivial (st_fa_p (o' := 0) fi_65_0 (by decide) rfl hpL_hit rfl) rfl fun rd0 => ?_
        refine goA_s trivial (st_ld_p (c := (PV.d true (.int .i64 x4))) ty_3 rfl hpL_hit rfl) rfl fun rd1 => ?_
        refine goA_s trivial (st_bin rfl rfl rfl rfl trivial) rfl fun rd2 => ?_
        refine goA_s trivial (st_mv (v := (PV.d true (.bool (x4 != (0 : Int))))) rfl) rfl fun rd3 => ?_
        refine goA_fork (x4 != (0 : Int)) (fun hb132 => ?_) (fun hb132 => ?_)
        · replace H := cond_t H hb132
          refine goA_gF rfl rfl hb132 rfl ?_
          refine goA_gF rfl rfl hb132 rfl ?_
          refine goA_gF rfl rfl hb132 rfl ?_
          refine goA_s trivial (st_pickT (v := (PV.d true (.bool true))) rfl hb132 rfl) rfl fun rd7 => ?_
          refine goA_s trivial (st_mv (v := (PV.d true (.bool true))) rfl) rfl fun rd8 => ?_
          refine goA_gF rfl rfl rfl rfl ?_
          refine goA_gF rfl rfl rfl rfl ?_
          refine goA_gF rfl rfl rfl rfl ?_
          refine goA_gF rfl rfl rfl rfl ?_
          refine goA_gF rfl rfl rfl rfl ?_
          refine goA_gF rfl rfl rfl rfl ?_
          refine goA_gF rfl rfl rfl rfl ?_
          refine goA_gF rfl rfl rfl rfl ?_
          refine goA_nil ?_
          rw [hKd131]
          refine ⟨?_, goOps_goL ?_⟩
          · trivial
          refine goL_gF rfl rfl rfl rfl ?_
          refine goL_s (st_pickT (v := (PV.d true (.bool true))) rfl rfl rfl) rfl ?_
          refine thenA_n ?_
          unfold J34_1
          exact ⟨_, v9, true, Gh.join ⟨rfl, rfl, rfl, rfl, rfl, trivial⟩ ⟨hpL_hit, trivial⟩, fun id hid => (hpL_low hid).trans (hlow0 id hid), H⟩
        · replace H := cond_f H hb132
          refine goA_s (GOK_t rfl rfl hb132) (st_fa_p (o' := 1) fi_65_1 (by decide) rfl hpL_hit rfl) rfl fun rd4 => ?_
          refine goA_s (GOK_t rfl rfl hb132) (st_ld_p (c := (PV.d true (.str x5))) ty_9 rfl hpL_hit rfl) rfl fun rd5 => ?_
          refine goA_s (GOK_t rfl rfl hb132) (st_bstr rfl rfl rfl rfl trivial) rfl fun rd6 => ?_
          refine goA_s trivial (st_pickF (v := (PV.d true (.bool (!(x5 == ([] : List UInt8)))))) rfl hb132 rfl) rfl fun rd7 => ?_
          refine goA_s trivial (st_mv (v := (PV.d true (.bool (!(x5 == ([] : List UInt8)))))) rfl) rfl fun rd8 => ?_
          refine goA_fork (!(x5 == ([] : List UInt8))) (fun hb133 => ?_) (fun hb133 => ?_)
          · replace H := cond_t H hb133
            refine goA_gF rfl rfl hb133 rfl ?_
            refine goA_gF rfl rfl hb133 rfl ?_
            refine goA_gF rfl rfl hb133 rfl ?_
            refine goA_gF rfl rfl hb133 rfl ?_
            refine goA_gF rfl rfl hb133 rfl ?_
            refine goA_gF rfl rfl hb133 rfl ?_
            refine goA_gF rfl rfl hb133 rfl ?_
            refine goA_gF rfl rfl hb133 rfl ?_
            refine goA_nil ?_
            rw [hKd131]
            refine ⟨?_, goOps_goL ?_⟩
            · trivial
            refine goL_gF rfl rfl hb133 rfl ?_
            refine goL_s (st_pickT (v := (PV.d true (.bool true))) rfl hb133 rfl) rfl ?_
            refine thenA_n ?_
            unfold J34_1
            exact ⟨_, v9, true, Gh.join ⟨rfl, rfl, rfl, rfl, rfl, trivial⟩ ⟨hpL_hit, trivial⟩, fun id hid => (hpL_low hid).trans (hlow0 id hid), H⟩
          · replace H := cond_f H hb133
            refine goA_s (GOK_t rfl rfl hb133) (st_fa_p (o' := 2) fi_65_2 (by decide) rfl hpL_hit rfl) rfl fun rd9 => ?_
            refine goA_s (GOK_t rfl rfl hb133) (st_ld_p (c := (PV.d true x6)) ty_63 rfl hpL_hit rfl) rfl fun rd10 => ?_
            obtain ⟨g134, H⟩ := gd_out H
            refine goA_s (GOK_t rfl rfl hb133) (st_len_d (id := 0) sl_63 rfl g134) rfl fun rd11 => ?_
            refine goA_s (GOK_t rfl rfl hb133) (st_mv (v := (PV.d true x1)) rfl) rfl fun rd12 => ?_
            refine goA_s (GOK_t rfl rfl hb133) (st_mv (v := (PV.d true (.int .i64 x3))) rfl) rfl fun rd13 => ?_
            obtain ⟨g135, H⟩ := gd_out H
            refine goA_s (GOK_t rfl rfl hb133) (st_ia_d el_26 sz_61 (by decide) (y := x1) rfl rfl g135) rfl fun rd14 => ?_
            obtain ⟨g136, H⟩ := gd_out H
            refine goA_s (GOK_t rfl rfl hb133) (st_fa_lp fi_61_3 (by decide) rfl g136) rfl fun rd15 => ?_
            obtain ⟨⟨g137, g138⟩, H⟩ := gd_out H
            refine goA_s (GOK_t rfl rfl hb133) (st_ld_lp ty_3 rfl g137 (cI g138)) rfl fun rd16 => ?_
            refine goA_nil ?_
            rw [hKd131]
            refine ⟨?_, goOps_goL ?_⟩
            · trivial
            refine goL_gT rfl rfl hb133 ?_
            refine goL_s (st_bin rfl rfl rfl rfl trivial) rfl ?_
            refine goL_s (st_pickF (v := (PV.d true (.bool ((lenN x6 : Int) != (intD ((((((cellsD x1).drop ((x3).toNat * 4))).drop 3)).getD 0 .nil)))))) rfl hb133 rfl) rfl ?_
            refine thenA_n ?_
            unfold J34_1
            exact ⟨_, v9, ((lenN x6 : Int) != (intD ((((((cellsD x1).drop ((x3).toNat * 4))).drop 3)).getD 0 .nil))), Gh.join ⟨rfl, rfl, rfl, rfl, rfl, trivial⟩ ⟨hpL_hit, trivial⟩, fun id hid => (hpL_low hid).trans (hlow0 id hid), H⟩
      · intro s hJ
        unfold J34_1 at hJ
        obtain ⟨hpx29, v28, x27, hG31, hlow30, H⟩ := hJ
        unfold F34_K1 at H
        refine awp_gh hG31 ?_
        clear hG31
        refine awp_ifL (b := x27) rfl (fun y33 hy33 hb32 => ?_) (fun y33 hy33 hb32 => ?_)
        · replace H := cond_t H hb32
          subst hy33
          refine awp_regionL fun y34 hy34 => ?_
          refine goL_s (st_as (v := (PV.d true (.int .i64 (13 : Int)))) rfl) rfl ?_
          subst hy34
          refine awp_ret ?_
          refine thenA_r ?_
          obtain rfl := Option.some.inj H
          exact ret1 (res_t (x := (PV.d true (.int .i64 (13 : Int)))) (d := (.int .i64 (13 : Int))) rfl rfl) (fun id hid => (hpL_low hid).trans (hlow30 id hid)) (fun _ _ => rfl) lowOK_same ⟨rfl, rfl⟩ (.inr rfl)
        · replace H := cond_f H hb32
          subst hy33
          refine awp_skip ?_
          refine thenA_n ?_
          subst hy26
          refine awp_regionL fun y35 hy35 => ?_
          refine goL_s (st_as (v := (PV.d true (.int .i64 (0 : Int)))) rfl) rfl ?_
          subst hy35
          refine awp_hide fun y36 hy36 => ?_
          refine awp_regionL fun y37 hy37 => ?_
          refine goL_s (st_mv (v := (PV.d true (.int .i64 x3))) rfl) rfl ?_
          refine goL_s (st_bin rfl rfl rfl rfl trivial) rfl ?_
          refine goL_s (st_as (v := (PV.d true (.int .i64 (IntKind.wrap .i64 (x3 + (1 : Int)))))) rfl) rfl ?_
          subst hy37
          refine awp_block ?_
          refine awp_loop (J34_2 (mkC 113 N Try.prog hp X) N hp x1 x2 x3 x6 (F34 n) n x4 x5 r) n ?_ ?_
          · unfold J34_2
            exact ⟨_, v28, (0 : Int), (IntKind.wrap .i64 (x3 + (1 : Int))), Gh.join ⟨rfl, rfl, rfl, rfl, rfl, rfl, trivial⟩ ⟨hpL_hit, trivial⟩, fun id hid => (hpL_low hid).trans (hlow30 id hid), H⟩
          · intro m2 s hJ
            unfold J34_2 at hJ
            obtain ⟨hpx45, v41, x39, x40, hG47, hlow46, H⟩ := hJ
            cases m2 with
            | zero => cases H
            | succ m2 =>
              rw [F34_L2] at H
              refine awp_gh hG47 ?_
              clear hG47
              refine awp_hide fun y48 hy48 => ?_
              refine awp_regionL fun y49 hy49 => ?_
              refine goL_s (st_mv (v := (PV.d true (.int .i64 x40))) rfl) rfl ?_
              refine goL_s (st_mv (v := (PV.d true x1)) rfl) rfl ?_
              obtain ⟨g50, H⟩ := gd_out H
              refine goL_s (st_len_d (id := 0) sl_26 rfl g50) rfl ?_
              refine goL_s (st_bin rfl rfl rfl rfl trivial) rfl ?_
              subst hy49
              refine awp_ifL (b := (decide (x40 < (lenN x1 : Int)))) rfl (fun y52 hy52 hb51 => ?_) (fun y52 hy52 hb51 => ?_)
              · replace H := cond_t H hb51
                subst hy52
                refine awp_skip ?_
                refine thenA_n ?_
                subst hy48
                refine awp_cut (J34_3 (mkC 113 N Try.prog hp X) N hp (F34_L2 x1 x2 x3 x6 (F34 n) n m2) x40 x1 x2 x3 x4 x5 x6 r) ?_ ?_
                · refine awp_block ?_
                  refine awp_hide fun y58 hy58 => ?_
                  refine awp_regionL fun y59 hy59 => ?_
                  refine goL_s (st_mv (v := (PV.d true x2)) rfl) rfl ?_
                  refine goL_s (st_mv (v := (PV.d true (.int .i64 x40))) rfl) rfl ?_
                  obtain ⟨g60, H⟩ := gd_out H
                  refine goL_s (st_ia_d el_22 sz_3 (by decide) (y := x2) rfl rfl g60) rfl ?_
                  obtain ⟨⟨g61, g62⟩, H⟩ := gd_out H
                  refine goL_s (st_ld_lp ty_3 rfl g61 (cI g62)) rfl ?_
                  refine goL_s (st_mv (v := (PV.d true (.int .i64 x3))) rfl) rfl ?_
                  refine goL_s (st_bin rfl rfl rfl rfl trivial) rfl ?_
                  subst hy59
                  refine awp_ifL (b := ((intD ((((cellsD x2).drop ((x40).toNat * 1))).getD 0 .nil)) != x3)) rfl (fun y64 hy64 hb63 => ?_) (fun y64 hy64 hb63 => ?_)
                  · replace H := cond_t H hb63
                    subst hy64
                    refine awp_exit ?_
                    refine thenA_e ?_
                    refine blockA_h ?_
                    refine thenA_n ?_
                    unfold J34_3
                    exact ⟨_, v41, x39, Gh.join ⟨rfl, rfl, rfl, rfl, rfl, rfl, trivial⟩ ⟨hpL_hit, trivial⟩, fun id hid => (hpL_low hid).trans (hlow46 id hid), H⟩
                  · replace H := cond_f H hb63
                    subst hy64
                    refine awp_skip ?_
                    refine thenA_n ?_
                    subst hy58
                    refine awp_regionL fun y65 hy65 => ?_
                    refine goL_s (st_fa_p (o' := 2) fi_65_2 (by decide) rfl hpL_hit rfl) rfl ?_
                    refine goL_s (st_ld_p (c := (PV.d true x6)) ty_63 rfl hpL_hit rfl) rfl ?_
                    refine goL_s (st_mv (v := (PV.d true (.int .i64 x39))) rfl) rfl ?_
                    obtain ⟨g66, H⟩ := gd_out H
                    refine goL_s (st_ia_d el_63 sz_28 (by decide) (y := x6) rfl rfl g66) rfl ?_
                    obtain ⟨g67, H⟩ := gd_out H
                    refine goL_s (st_ld_lp ty_28 rfl g67 (dk_true _)) rfl ?_
                    refine goL_s (st_as (v := (PV.d true ((((cellsD x6).drop ((x39).toNat * 1))).getD 0 .nil))) rfl) rfl ?_
                    subst hy65
                    refine awp_regionL fun y68 hy68 => ?_
                    refine goL_s (st_mv (v := (PV.d true (.int .i64 x39))) rfl) rfl ?_
                    refine goL_s (st_bin rfl rfl rfl rfl trivial) rfl ?_
                    refine goL_s (st_as (v := (PV.d true (.int .i64 (IntKind.wrap .i64 (x39 + (1 : Int)))))) rfl) rfl ?_
                    subst hy68
                    refine awp_hide fun y69 hy69 => ?_
                    refine awp_block ?_
                    refine awp_cut (J34_4 (mkC 113 N Try.prog hp X) N hp x6 x39 (F34 n) x1 x2 x40 (F34_L2 x1 x2 x3 x6 (F34 n) n m2) n x3 x4 x5 r) ?_ ?_
                    · refine awp_regionL1 ?_
                      refine goL_s (st_mv (v := (PV.d true x1)) rfl) rfl ?_
                      refine goL_s (st_mv (v := (PV.d true (.int .i64 x40))) rfl) rfl ?_
                      obtain ⟨g111, H⟩ := gd_out H
                      refine goL_s (st_ia_d el_26 sz_61 (by decide) (y := x1) rfl rfl g111) rfl ?_
                      obtain ⟨g112, H⟩ := gd_out H
                      refine goL_s (st_fa_lp fi_61_1 (by decide) rfl g112) rfl ?_
                      obtain ⟨⟨g113, g114⟩, H⟩ := gd_out H
                      refine goL_s (st_ld_lp ty_3 rfl g113 (cI g114)) rfl ?_
                      refine goL_s (st_bin rfl rfl rfl rfl trivial) rfl ?_
                      refine goL_s (st_mv (v := (PV.d true (.bool ((intD ((((((cellsD x1).drop ((x40).toNat * 4))).drop 1)).getD 0 .nil)) != (2 : Int))))) rfl) rfl ?_
                      refine goL_fork ((intD ((((((cellsD x1).drop ((x40).toNat * 4))).drop 1)).getD 0 .nil)) != (2 : Int)) (fun hb115 => ?_) (fun hb115 => ?_)
                      · replace H := cond_t H hb115
                        refine goL_gT rfl rfl hb115 ?_
                        refine goL_s (st_mv (v := (PV.d true ((((cellsD x6).drop ((x39).toNat * 1))).getD 0 .nil))) rfl) rfl ?_
                        obtain ⟨g116, H⟩ := gd_out H
                        refine goL_gT rfl rfl hb115 ?_
                        refine goL_s (st_len_d (id := 0) sl_28 rfl g116) rfl ?_
                        refine goL_gT rfl rfl hb115 ?_
                        refine goL_s (st_bin rfl rfl rfl rfl trivial) rfl ?_
                        refine goL_s (st_pickT (v := (PV.d true (.bool (decide ((1 : Int) < (lenN ((((cellsD x6).drop ((x39).toNat * 1))).getD 0 .nil) : Int)))))) rfl hb115 rfl) rfl ?_
                        refine goL_s (st_mv (v := (PV.d true (.bool (decide ((1 : Int) < (lenN ((((cellsD x6).drop ((x39).toNat * 1))).getD 0 .nil) : Int)))))) rfl) rfl ?_
                        refine goL_fork (decide ((1 : Int) < (lenN ((((cellsD x6).drop ((x39).toNat * 1))).getD 0 .nil) : Int))) (fun hb117 => ?_) (fun hb117 => ?_)
                        · replace H := cond_t H hb117
                          refine goL_gF rfl rfl hb117 rfl ?_
                          refine goL_gF rfl rfl hb117 rfl ?_
                          refine goL_gF rfl rfl hb117 rfl ?_
                          refine goL_gF rfl rfl hb117 rfl ?_
                          refine goL_gF rfl rfl hb117 rfl ?_
                          refine goL_gF rfl rfl hb117 rfl ?_
                          refine goL_gF rfl rfl hb117 rfl ?_
                          refine goL_gU rfl rfl rfl ?_
                          refine goL_gU rfl rfl rfl ?_
                          refine goL_gU rfl rfl rfl ?_
                          refine goL_gF rfl rfl hb117 rfl ?_
                          refine goL_s (st_pickT (v := (PV.d true (.bool true))) rfl hb117 rfl) rfl ?_
                          refine goL_s (st_as (v := (PV.d true (.bool true))) rfl) rfl ?_
                          refine thenA_n ?_
                          unfold J34_4
                          exact ⟨_, v41, true, Gh.join ⟨rfl, rfl, rfl, rfl, rfl, rfl, rfl, rfl, trivial⟩ ⟨hpL_hit, trivial⟩, fun id hid => (hpL_low hid).trans (hlow46 id hid), H⟩
                        · replace H := cond_f H hb117
                          refine goL_gT rfl rfl hb117 ?_
                          refine goL_s (st_mv (v := (PV.d true x1)) rfl) rfl ?_
                          refine goL_gT rfl rfl hb117 ?_
                          refine goL_s (st_mv (v := (PV.d true (.int .i64 x40))) rfl) rfl ?_
                          obtain ⟨g118, H⟩ := gd_out H
                          refine goL_gT rfl rfl hb117 ?_
                          refine goL_s (st_ia_d el_26 sz_61 (by decide) (y := x1) rfl rfl g118) rfl ?_
                          obtain ⟨g119, H⟩ := gd_out H
                          refine goL_gT rfl rfl hb117 ?_
                          refine goL_s (st_fa_lp fi_61_1 (by decide) rfl g119) rfl ?_
                          obtain ⟨⟨g120, g121⟩, H⟩ := gd_out H
                          refine goL_gT rfl rfl hb117 ?_
                          refine goL_s (st_ld_lp ty_3 rfl g120 (cI g121)) rfl ?_
                          refine goL_gT rfl rfl hb117 ?_
                          refine goL_s (st_bin rfl rfl rfl rfl trivial) rfl ?_
                          refine goL_gT rfl rfl hb117 ?_
                          refine goL_s (st_mv (v := (PV.d true (.bool ((intD ((((((cellsD x1).drop ((x40).toNat * 4))).drop 1)).getD 0 .nil)) == (0 : Int))))) rfl) rfl ?_
                          refine goL_fork ((intD ((((((cellsD x1).drop ((x40).toNat * 4))).drop 1)).getD 0 .nil)) == (0 : Int)) (fun hb122 => ?_) (fun hb122 => ?_)
                          · replace H := cond_t H hb122
                            refine goL_gT rfl rfl hb122 ?_
                            refine goL_s (st_mv (v := (PV.d true ((((cellsD x6).drop ((x39).toNat * 1))).getD 0 .nil))) rfl) rfl ?_
                            obtain ⟨g123, H⟩ := gd_out H
                            refine goL_gT rfl rfl hb122 ?_
                            refine goL_s (st_len_d (id := 0) sl_28 rfl g123) rfl ?_
                            refine goL_gT rfl rfl hb122 ?_
                            refine goL_s (st_bin rfl rfl rfl rfl trivial) rfl ?_
                            refine goL_gT rfl rfl hb117 ?_
                            refine goL_s (st_pickT (v := (PV.d true (.bool ((lenN ((((cellsD x6).drop ((x39).toNat * 1))).getD 0 .nil) : Int) != (1 : Int))))) rfl hb122 rfl) rfl ?_
                            refine goL_s (st_pickF (v := (PV.d true (.bool ((lenN ((((cellsD x6).drop ((x39).toNat * 1))).getD 0 .nil) : Int) != (1 : Int))))) rfl hb117 rfl) rfl ?_
                            refine goL_s (st_as (v := (PV.d true (.bool ((lenN ((((cellsD x6).drop ((x39).toNat * 1))).getD 0 .nil) : Int) != (1 : Int))))) rfl) rfl ?_
                            refine thenA_n ?_
                            unfold J34_4
                            exact ⟨_, v41, ((lenN ((((cellsD x6).drop ((x39).toNat * 1))).getD 0 .nil) : Int) != (1 : Int)), Gh.join ⟨rfl, rfl, rfl, rfl, rfl, rfl, rfl, rfl, trivial⟩ ⟨hpL_hit, trivial⟩, fun id hid => (hpL_low hid).trans (hlow46 id hid), H⟩
                          · replace H := cond_f H hb122
                            refine goL_gF rfl rfl hb122 rfl ?_
                            refine goL_gF rfl rfl hb122 rfl ?_
                            refine goL_gF rfl rfl hb122 rfl ?_
                            refine goL_gT rfl rfl hb117 ?_
                            refine goL_s (st_pickF (v := (PV.d true (.bool false))) rfl hb122 rfl) rfl ?_
                            refine goL_s (st_pickF (v := (PV.d true (.bool false))) rfl hb117 rfl) rfl ?_
                            refine goL_s (st_as (v := (PV.d true (.bool false))) rfl) rfl ?_
                            refine thenA_n ?_
                            unfold J34_4
                            exact ⟨_, v41, false, Gh.join ⟨rfl, rfl, rfl, rfl, rfl, rfl, rfl, rfl, trivial⟩ ⟨hpL_hit, trivial⟩, fun id hid => (hpL_low hid).trans (hlow46 id hid), H⟩
                      · replace H := cond_f H hb115
                        refine goL_gF rfl rfl hb115 rfl ?_
                        refine goL_gF rfl rfl hb115 rfl ?_
                        refine goL_gF rfl rfl hb115 rfl ?_
                        refine goL_s (st_pickF (v := (PV.d true (.bool false))) rfl hb115 rfl) rfl ?_
                        refine goL_s (st_mv (v := (PV.d true (.bool false))) rfl) rfl ?_
                        refine goL_gT rfl rfl rfl ?_
                        refine goL_s (st_mv (v := (PV.d true x1)) rfl) rfl ?_
                        refine goL_gT rfl rfl rfl ?_
                        refine goL_s (st_mv (v := (PV.d true (.int .i64 x40))) rfl) rfl ?_
                        obtain ⟨g124, H⟩ := gd_out H
                        refine goL_gT rfl rfl rfl ?_
                        refine goL_s (st_ia_d el_26 sz_61 (by decide) (y := x1) rfl rfl g124) rfl ?_
                        obtain ⟨g125, H⟩ := gd_out H
                        refine goL_gT rfl rfl rfl ?_
                        refine goL_s (st_fa_lp fi_61_1 (by decide) rfl g125) rfl ?_
                        obtain ⟨⟨g126, g127⟩, H⟩ := gd_out H
                        refine goL_gT rfl rfl rfl ?_
                        refine goL_s (st_ld_lp ty_3 rfl g126 (cI g127)) rfl ?_
                        refine goL_gT rfl rfl rfl ?_
                        refine goL_s (st_bin rfl rfl rfl rfl trivial) rfl ?_
                        refine goL_gT rfl rfl rfl ?_
                        refine goL_s (st_mv (v := (PV.d true (.bool ((intD ((((((cellsD x1).drop ((x40).toNat * 4))).drop 1)).getD 0 .nil)) == (0 : Int))))) rfl) rfl ?_
                        refine goL_fork ((intD ((((((cellsD x1).drop ((x40).toNat * 4))).drop 1)).getD 0 .nil)) == (0 : Int)) (fun hb128 => ?_) (fun hb128 => ?_)
                        · replace H := cond_t H hb128
                          refine goL_gT rfl rfl hb128 ?_
                          refine goL_s (st_mv (v := (PV.d true ((((cellsD x6).drop ((x39).toNat * 1))).getD 0 .nil))) rfl) rfl ?_
                          obtain ⟨g129, H⟩ := gd_out H
                          refine goL_gT rfl rfl hb128 ?_
                          refine goL_s (st_len_d (id := 0) sl_28 rfl g129) rfl ?_
                          refine goL_gT rfl rfl hb128 ?_
                          refine goL_s (st_bin rfl rfl rfl rfl trivial) rfl ?_
                          refine goL_gT rfl rfl rfl ?_
                          refine goL_s (st_pickT (v := (PV.d true (.bool ((lenN ((((cellsD x6).drop ((x39).toNat * 1))).getD 0 .nil) : Int) != (1 : Int))))) rfl hb128 rfl) rfl ?_
                          refine goL_s (st_pickF (v := (PV.d true (.bool ((lenN ((((cellsD x6).drop ((x39).toNat * 1))).getD 0 .nil) : Int) != (1 : Int))))) rfl rfl rfl) rfl ?_
                          refine goL_s (st_as (v := (PV.d true (.bool ((lenN ((((cellsD x6).drop ((x39).toNat * 1))).getD 0 .nil) : Int) != (1 : Int))))) rfl) rfl ?_
                          refine thenA_n ?_
                          unfold J34_4
                          exact ⟨_, v41, ((lenN ((((cellsD x6).drop ((x39).toNat * 1))).getD 0 .nil) : Int) != (1 : Int)), Gh.join ⟨rfl, rfl, rfl, rfl, rfl, rfl, rfl, rfl, trivial⟩ ⟨hpL_hit, trivial⟩, fun id hid => (hpL_low hid).trans (hlow46 id hid), H⟩
                        · replace H := cond_f H hb128
                          refine goL_gF rfl rfl hb128 rfl ?_
                          refine goL_gF rfl rfl hb128 rfl ?_
                          refine goL_gF rfl rfl hb128 rfl ?_
                          refine goL_gT rfl rfl rfl ?_
                          refine goL_s (st_pickF (v := (PV.d true (.bool false))) rfl hb128 rfl) rfl ?_
                          refine goL_s (st_pickF (v := (PV.d true (.bool false))) rfl rfl rfl) rfl ?_
                          refine goL_s (st_as (v := (PV.d true (.bool false))) rfl) rfl ?_
                          refine thenA_n ?_
                          unfold J34_4
                          exact ⟨_, v41, false, Gh.join ⟨rfl, rfl, rfl, rfl, rfl, rfl, rfl, rfl, trivial⟩ ⟨hpL_hit, trivial⟩, fun id hid => (hpL_low hid).trans (hlow46 id hid), H⟩
                    · intro s hJ
                      unfold J34_4 at hJ
                      obtain ⟨hpx72, v71, x70, hG74, hlow73, H⟩ := hJ
                      unfold F34_K4 at H
                      refine awp_gh hG74 ?_
                      clear hG74
                      refine awp_ifL (b := x70) rfl (fun y76 hy76 hb75 => ?_) (fun y76 hy76 hb75 => ?_)
                      · replace H := cond_t H hb75
                        subst hy76
                        refine awp_regionL fun y77 hy77 => ?_
                        refine goL_s (st_as (v := (PV.d true (.int .i64 (13 : Int)))) rfl) rfl ?_
                        subst hy77
                        refine awp_ret ?_
                        refine blockA_r ?_
                        refine thenA_r ?_
                        refine blockA_r ?_
                        refine thenA_r ?_
                        refine thenA_r ?_
                        refine blockA_r ?_
                        refine thenA_r ?_
                        obtain rfl := Option.some.inj H
                        exact ret1 (res_t (x := (PV.d true (.int .i64 (13 : Int)))) (d := (.int .i64 (13 : Int))) rfl rfl) (fun id hid => (hpL_low hid).trans (hlow73 id hid)) (fun _ _ => rfl) lowOK_same ⟨rfl, rfl⟩ (.inr rfl)
                      · replace H := cond_f H hb75
                        subst hy76
                        refine awp_regionL fun y78 hy78 => ?_
                        refine goL_s (st_mv (v := (PV.d true ((((cellsD x6).drop ((x39).toNat * 1))).getD 0 .nil))) rfl) rfl ?_
                        obtain ⟨g79, H⟩ := gd_out H
                        refine goL_s (st_len_d (id := 0) sl_28 rfl g79) rfl ?_
                        refine goL_s (st_bin rfl rfl rfl rfl trivial) rfl ?_
                        refine goL_s (st_as (v := (PV.d true (.bool (decide ((50 : Int) < (lenN ((((cellsD x6).drop ((x39).toNat * 1))).getD 0 .nil) : Int)))))) rfl) rfl ?_
                        subst hy78
                        refine awp_ifL (b := (decide ((50 : Int) < (lenN ((((cellsD x6).drop ((x39).toNat * 1))).getD 0 .nil) : Int)))) rfl (fun y81 hy81 hb80 => ?_) (fun y81 hy81 hb80 => ?_)
                        · replace H := cond_t H hb80
                          subst hy81
                          refine awp_regionL fun y82 hy82 => ?_
                          refine goL_s (st_as (v := (PV.d true (.int .i64 (4 : Int)))) rfl) rfl ?_
                          subst hy82
                          refine awp_ret ?_
                          refine blockA_r ?_
                          refine thenA_r ?_
                          refine blockA_r ?_
                          refine thenA_r ?_
                          refine thenA_r ?_
                          refine blockA_r ?_
                          refine thenA_r ?_
                          obtain rfl := Option.some.inj H
                          exact ret1 (res_t (x := (PV.d true (.int .i64 (4 : Int)))) (d := (.int .i64 (4 : Int))) rfl rfl) (fun id hid => (hpL_low hid).trans (hlow73 id hid)) (fun _ _ => rfl) lowOK_same ⟨rfl, rfl⟩ (.inr rfl)
                        · replace H := cond_f H hb80
                          subst hy81
                          refine awp_skip ?_
                          refine blockA_n ?_
                          refine thenA_n ?_
                          subst hy69
                          refine awp_regionL fun y83 hy83 => ?_
                          refine goL_s (st_as (v := (PV.d true (.int .i64 (0 : Int)))) rfl) rfl ?_
                          subst hy83
                          refine awp_block ?_
                          refine awp_loop (J34_5 (mkC 113 N Try.prog hp X) N hp x6 x39 (F34 n) x1 x2 x40 (F34_L2 x1 x2 x3 x6 (F34 n) n m2) x3 x4 x5 r) n ?_ ?_
                          · unfold J34_5
                            exact ⟨_, v71, (0 : Int), Gh.join ⟨rfl, rfl, rfl, rfl, rfl, rfl, rfl, rfl, trivial⟩ ⟨hpL_hit, trivial⟩, fun id hid => (hpL_low hid).trans (hlow73 id hid), H⟩
                          · intro m5 s hJ
                            unfold J34_5 at hJ
                            obtain ⟨hpx89, v86, x85, hG91, hlow90, H⟩ := hJ
                            cases m5 with
                            | zero => cases H
                            | succ m5 =>
                              rw [F34_L5] at H
                              refine awp_gh hG91 ?_
                              clear hG91
                              refine awp_hide fun y92 hy92 => ?_
                              refine awp_regionL fun y93 hy93 => ?_
                              refine goL_s (st_mv (v := (PV.d true (.int .i64 x85))) rfl) rfl ?_
                              refine goL_s (st_mv (v := (PV.d true ((((cellsD x6).drop ((x39).toNat * 1))).getD 0 .nil))) rfl) rfl ?_
                              obtain ⟨g94, H⟩ := gd_out H
                              refine goL_s (st_len_d (id := 0) sl_28 rfl g94) rfl ?_
                              refine goL_s (st_bin rfl rfl rfl rfl trivial) rfl ?_
                              subst hy93
                              refine awp_ifL (b := (decide (x85 < (lenN ((((cellsD x6).drop ((x39).toNat * 1))).getD 0 .nil) : Int)))) rfl (fun y96 hy96 hb95 => ?_) (fun y96 hy96 hb95 => ?_)
                              · replace H := cond_t H hb95
                                subst hy96
                                refine awp_skip ?_
                                refine thenA_n ?_
                                subst hy92
                                refine awp_hide fun y97 hy97 => ?_
                                refine awp_block ?_
                                refine awp_regionL fun y98 hy98 => ?_
                                refine goL_s (st_mv (v := (PV.d true x1)) rfl) rfl ?_
                                refine goL_s (st_mv (v := (PV.d true x2)) rfl) rfl ?_
                                refine goL_s (st_mv (v := (PV.d true (.int .i64 x40))) rfl) rfl ?_
                                refine goL_s (st_mv (v := (PV.d true ((((cellsD x6).drop ((x39).toNat * 1))).getD 0 .nil))) rfl) rfl ?_
                                refine goL_s (st_mv (v := (PV.d true (.int .i64 x85))) rfl) rfl ?_
                                obtain ⟨g99, H⟩ := gd_out H
                                refine goL_s (st_ia_d el_28 sz_65 (by decide) (y := ((((cellsD x6).drop ((x39).toNat * 1))).getD 0 .nil)) rfl rfl g99) rfl ?_
                                obtain ⟨g100, H⟩ := gd_out H
                                refine goL_s (st_ldA_lp ty_65 rfl g100) rfl ?_
                                obtain ⟨⟨g101, g102, g103, g104⟩, H⟩ := gd_out H
                                obtain ⟨x105, c106, H⟩ := bd_out H
                                refine goL_cp (args' := [(PV.d true x1), (PV.d true x2), (PV.d true (.int .i64 x40)), (PV.agg [(PV.d true (.int .i64 (intD ((((cellsD ((((cellsD x6).drop ((x39).toNat * 1))).getD 0 .nil)).drop ((x85).toNat * 3))).getD 0 .nil)))), (PV.d true (.str (strD ((((cellsD ((((cellsD x6).drop ((x39).toNat * 1))).getD 0 .nil)).drop ((x85).toNat * 3))).getD 1 .nil)))), (PV.d true ((((cellsD ((((cellsD x6).drop ((x39).toNat * 1))).getD 0 .nil)).drop ((x85).toNat * 3))).getD 2 .nil))])]) (r := (PV.d true (.int .i64 x105))) rfl rfl ⟨Wk.refl, ⟨Wk.refl, ⟨Wk.refl, ⟨(Wk.aggE (by rw [ex3 g101, cI g102, cS g103, dk_true])), trivial⟩⟩⟩⟩ enter_34 rfl (ih c106 (N + 113) _) ?_
                                refine goL_s (st_as (v := (PV.d true (.int .i64 x105))) rfl) rfl ?_
                                subst hy98
                                refine awp_regionL fun y107 hy107 => ?_
                                refine goL_s (st_mv (v := (PV.d true (.int .i64 x105))) rfl) rfl ?_
                                refine goL_s (st_bin rfl rfl rfl rfl trivial) rfl ?_
                                subst hy107
                                refine awp_ifL (b := (x105 != (0 : Int))) rfl (fun y109 hy109 hb108 => ?_) (fun y109 hy109 hb108 => ?_)
                                · replace H := cond_t H hb108
                                  subst hy109
                                  refine awp_regionL fun y110 hy110 => ?_
                                  refine goL_s (st_mv (v := (PV.d true (.int .i64 x105))) rfl) rfl ?_
                                  refine goL_s (st_as (v := (PV.d true (.int .i64 x105))) rfl) rfl ?_
                                  subst hy110
                                  refine awp_ret ?_
                                  refine blockA_r ?_
                                  refine thenA_r ?_
                                  refine thenA_r ?_
                                  refine blockA_r ?_
                                  refine blockA_r ?_
                                  refine thenA_r ?_
                                  refine thenA_r ?_
                                  refine blockA_r ?_
                                  refine thenA_r ?_
                                  obtain rfl := Option.some.inj H
                                  exact ret1 (res_t (x := (PV.d true (.int .i64 x105))) (d := (.int .i64 x105)) rfl rfl) (fun id hid => (hpL_low hid).trans (hlow90 id hid)) (fun _ _ => rfl) lowOK_same ⟨rfl, rfl⟩ (.inr rfl)
                                · replace H := cond_f H hb108
                                  subst hy109
                                  refine awp_skip ?_
                                  refine blockA_n ?_
                                  refine thenA_n ?_
                                  subst hy97
                                  refine awp_regionL1 ?_
                                  refine goL_s (st_mv (v := (PV.d true (.int .i64 x85))) rfl) rfl ?_
                                  refine goL_s (st_bin rfl rfl rfl rfl trivial) rfl ?_
                                  refine goL_s (st_as (v := (PV.d true (.int .i64 (IntKind.wrap .i64 (x85 + (1 : Int)))))) rfl) rfl ?_
                                  refine thenA_n ?_
                                  refine ⟨m5, Nat.lt_succ_self _, ?_⟩
                                  unfold J34_5
                                  exact ⟨_, v86, (IntKind.wrap .i64 (x85 + (1 : Int))), Gh.join ⟨rfl, rfl, rfl, rfl, rfl, rfl, rfl, rfl, trivial⟩ ⟨hpL_hit, trivial⟩, fun id hid => (hpL_low hid).trans (hlow90 id hid), H⟩
                              · replace H := cond_f H hb95
                                subst hy96
                                refine awp_exit ?_
                                refine thenA_e ?_
                                refine thenA_e ?_
                                refine blockA_h ?_
                                refine blockA_n ?_
                                refine thenA_n ?_
                                unfold J34_3
                                exact ⟨_, v86, (IntKind.wrap .i64 (x39 + (1 : Int))), Gh.join ⟨rfl, rfl, rfl, rfl, rfl, rfl, trivial⟩ ⟨hpL_hit, trivial⟩, fun id hid => (hpL_low hid).trans (hlow90 id hid), H⟩
                · intro s hJ
                  unfold J34_3 at hJ
                  obtain ⟨hpx55, v54, x53, hG57, hlow56, H⟩ := hJ
                  unfold F34_K3 at H
                  refine awp_gh hG57 ?_
                  clear hG57
                  refine awp_regionL1 ?_
                  refine goL_s (st_mv (v := (PV.d true (.int .i64 x40))) rfl) rfl ?_
                  refine goL_s (st_bin rfl rfl rfl rfl trivial) rfl ?_
                  refine goL_s (st_as (v := (PV.d true (.int .i64 (IntKind.wrap .i64 (x40 + (1 : Int)))))) rfl) rfl ?_
                  refine thenA_n ?_
                  refine ⟨m2, Nat.lt_succ_self _, ?_⟩
                  unfold J34_2
                  exact ⟨_, v54, x53, (IntKind.wrap .i64 (x40 + (1 : Int))), Gh.join ⟨rfl, rfl, rfl, rfl, rfl, rfl, trivial⟩ ⟨hpL_hit, trivial⟩, fun id hid => (hpL_low hid).trans (hlow56 id hid), H⟩
              · replace H := cond_f H hb51
                subst hy52
                refine awp_exit ?_
                refine thenA_e ?_
                refine thenA_e ?_
                refine blockA_h ?_
                refine thenA_n ?_
                subst hy36
                refine awp_regionL fun y130 hy130 => ?_
                refine goL_s (st_as (v := (PV.d true (.int .i64 (0 : Int)))) rfl) rfl ?_
                subst hy130
                refine awp_ret ?_
                obtain rfl := Option.some.inj H
                exact ret1 (res_t (x := (PV.d true (.int .i64 (0 : Int)))) (d := (.int .i64 (0 : Int))) rfl rfl) (fun id hid => (hpL_low hid).trans (hlow46 id hid)) (fun _ _ => rfl) lowOK_same ⟨rfl, rfl⟩ (.inr rfl)

def F48_K2 (lo1 : Nat → Nat → Nat → Nat → Int → List PD → List PD → List PD → List PD → Option (PD × PD)) (x6 : Nat) (x7 : Nat) (x10 : Int) (x40 : Nat) (x41 : Nat) (x43 : List PD) (x45 : List PD) (x47 : List PD) (x49 : List PD) : Option (PD × PD) :=
  lo1 (x6 + 1) (x7 + 1) x40 x41 (IntKind.wrap .i64 (x10 + (1 : Int))) x43 x45 x47 x49

def J48_2 (C : Ctx) (N : Nat) (hp : HP) (lo1 : Nat → Nat → Nat → Nat → Int → List PD → List PD → List PD → List PD → Option (PD × PD)) (x6 : Nat) (x7 : Nat) (x10 : Int) (x1 : PD) (rr : PD × PD) (s : ASt) : Prop :=
  ∃ (hpx : HP) (v42 v44 v46 v48 : Nat) (x40 : Nat) (x41 : Nat) (x43 : List PD) (x45 : List PD) (x47 : List PD) (x49 : List PD), Gh C s ⟨envL [(0, (PV.d true x1)), (4, (PV.own (N + 42) v42 0 (x6 + 1))), (5, (PV.own (N + 45) v44 0 (x7 + 1))), (6, (PV.own (N + 85) v46 0 x40)), (7, (PV.own (N + 93) v48 0 x41)), (8, (PV.d true (.int .i64 x10)))], hpL N hpx [(42, (v42, some (.cells 3 ((x43).map (PV.d true))))), (45, (v44, some (.cells 3 ((x45).map (PV.d true))))), (85, (v46, some (.cells 3 ((x47).map (PV.d true))))), (93, (v48, some (.cells 3 ((x49).map (PV.d true)))))]⟩ ∧ (∀ id, id < N → hpx id = hp id) ∧ F48_K2 lo1 x6 x7 x10 x40 x41 x43 x45 x47 x49 = some rr

def F48_K6 (x58 : Nat) (x63 : List PD) (x1 : PD) (x10 : Int) (x59 : Nat) (x97 : List PD) (lo1 : Nat → Nat → Nat → Nat → Int → List PD → List PD → List PD → List PD → Option (PD × PD)) (x6 : Nat) (x7 : Nat) (x92 : List PD) (x94 : List PD) (x101 : Bool) : Option (PD × PD) :=
  bif x101 then
    gd ((apOK 8 (x58 + 1)) ∧ (x58 * 1 = (x63).length)) <|
    gd (idxOK 4 x1 x10) <|
    gd (3 ≤ (((cellsD x1).drop ((x10).toNat * 4))).length) <|
    gd ((1 ≤ (((((cellsD x1).drop ((x10).toNat * 4))).drop 3)).length) ∧ (isI .i64 ((((((cellsD x1).drop ((x10).toNat * 4))).drop 3)).getD 0 .nil) = true)) <|
    gd ((apOK 8 (x59 + 1)) ∧ (x59 * 1 = (x97).length)) <|
    F48_K2 lo1 x6 x7 x10 (x58 + 1) (x59 + 1) x92 x94 (x63 ++ ([(.int .i64 x10)] : List PD)) (x97 ++ ([(.int .i64 (intD ((((((cellsD x1).drop ((x10).toNat * 4))).drop 3)).getD 0 .nil)))] : List PD))
  else
    F48_K2 lo1 x6 x7 x10 x58 x59 x92 x94 x63 x97

def J48_6 (C : Ctx) (N : Nat) (hp : HP) (x58 : Nat) (x63 : List PD) (x1 : PD) (x10 : Int) (x59 : Nat) (x97 : List PD) (lo1 : Nat → Nat → Nat → Nat → Int → List PD → List PD → List PD → List PD → Option (PD × PD)) (x6 : Nat) (x7 : Nat) (x92 : List PD) (x94 : List PD) (rr : PD × PD) (s : ASt) : Prop :=
  ∃ (hpx : HP) (v102 v103 v104 v105 : Nat) (x101 : Bool), Gh C s ⟨envL [(0, (PV.d true x1)), (4, (PV.own (N + 42) v102 0 (x6 + 1))), (5, (PV.own (N + 45) v103 0 (x7 + 1))), (6, (PV.own (N + 85) v104 0 x58)), (7, (PV.own (N + 93) v105 0 x59)), (8, (PV.d true (.int .i64 x10))), (81, (PV.d true (.bool x101)))], hpL N hpx [(42, (v102, some (.cells 3 ((x92).map (PV.d true))))), (45, (v103, some (.cells 3 ((x94).map (PV.d true))))), (85, (v104, some (.cells 3 ((x63).map (PV.d true))))), (93, (v105, some (.cells 3 ((x97).map (PV.d true)))))]⟩ ∧ (∀ id, id < N → hpx id = hp id) ∧ F48_K6 x58 x63 x1 x10 x59 x97 lo1 x6 x7 x92 x94 x101 = some rr

def F48_K5 (x1 : PD) (x10 : Int) (x58 : Nat) (x63 : List PD) (x59 : Nat) (lo1 : Nat → Nat → Nat → Nat → Int → List PD → List PD → List PD → List PD → Option (PD × PD)) (x6 : Nat) (x7 : Nat) (x92 : List PD) (x94 : List PD) (x97 : List PD) : Option (PD × PD) :=
  gd (idxOK 4 x1 x10) <|
  gd (2 ≤ (((cellsD x1).drop ((x10).toNat * 4))).length) <|
  gd ((1 ≤ (((((cellsD x1).drop ((x10).toNat * 4))).drop 2)).length) ∧ (isI .i64 ((((((cellsD x1).drop ((x10).toNat * 4))).drop 2)).getD 0 .nil) = true)) <|
  bif ((intD ((((((cellsD x1).drop ((x10).toNat * 4))).drop 2)).getD 0 .nil)) == (0 : Int)) then
    gd (idxOK 4 x1 x10) <|
    gd (3 ≤ (((cellsD x1).drop ((x10).toNat * 4))).length) <|
    gd ((1 ≤ (((((cellsD x1).drop ((x10).toNat * 4))).drop 3)).length) ∧ (isI .i64 ((((((cellsD x1).drop ((x10).toNat * 4))).drop 3)).getD 0 .nil) = true)) <|
    F48_K6 x58 x63 x1 x10 x59 x97 lo1 x6 x7 x92 x94 (decide ((0 : Int) < (intD ((((((cellsD x1).drop ((x10).toNat * 4))).drop 3)).getD 0 .nil))))
  else
    F48_K6 x58 x63 x1 x10 x59 x97 lo1 x6 x7 x92 x94 false

def J48_5 (C : Ctx) (N : Nat) (hp : HP) (x1 : PD) (x10 : Int) (x58 : Nat) (x63 : List PD) (x59 : Nat) (lo1 : Nat → Nat → Nat → Nat → Int → List PD → List PD → List PD → List PD → Option (PD × PD)) (x6 : Nat) (x7 : Nat) (rr : PD × PD) (s : ASt) : Prop :=
  ∃ (hpx : HP) (v91 v93 v95 v96 : Nat) (x92 : List PD) (x94 : List PD) (x97 : List PD), Gh C s ⟨envL [(0, (PV.d true x1)), (4, (PV.own (N + 42) v91 0 (x6 + 1))), (5, (PV.own (N + 45) v93 0 (x7 + 1))), (6, (PV.own (N + 85) v95 0 x58)), (7, (PV.own (N + 93) v96 0 x59)), (8, (PV.d true (.int .i64 x10)))], hpL N hpx [(42, (v91, some (.cells 3 ((x92).map (PV.d true))))), (45, (v93, some (.cells 3 ((x94).map (PV.d true))))), (85, (v95, some (.cells 3 ((x63).map (PV.d true))))), (93, (v96, some (.cells 3 ((x97).map (PV.d true)))))]⟩ ∧ (∀ id, id < N → hpx id = hp id) ∧ F48_K5 x1 x10 x58 x63 x59 lo1 x6 x7 x92 x94 x97 = some rr

def F48_K4 (x58 : Nat) (x59 : Nat) (lo3 : Nat → Nat → List PD → List PD → Option (PD × PD)) (x63 : List PD) (x65 : List PD) (x6 : Nat) (x12 : List PD) (x7 : Nat) (x14 : List PD) (x1 : PD) (x10 : Int) (lo1 : Nat → Nat → Nat → Nat → Int → List PD → List PD → List PD → List PD → Option (PD × PD)) (x78 : Bool) : Option (PD × PD) :=
  bif x78 then
    gd (0 ≤ (0 : Int) ∧ (0 : Int) ≤ (IntKind.wrap .i64 ((x58 : Int) - (1 : Int))) ∧ (IntKind.wrap .i64 ((x58 : Int) - (1 : Int))) ≤ (x58 : Nat)) <|
    gd (0 ≤ (0 : Int) ∧ (0 : Int) ≤ (IntKind.wrap .i64 ((x59 : Int) - (1 : Int))) ∧ (IntKind.wrap .i64 ((x59 : Int) - (1 : Int))) ≤ (x59 : Nat)) <|
    lo3 ((IntKind.wrap .i64 ((x58 : Int) - (1 : Int)))).toNat ((IntKind.wrap .i64 ((x59 : Int) - (1 : Int)))).toNat ((x63).take (((IntKind.wrap .i64 ((x58 : Int) - (1 : Int)))).toNat * 1)) ((x65).take (((IntKind.wrap .i64 ((x59 : Int) - (1 : Int)))).toNat * 1))
  else
    bif ((x59 : Int) == (0 : Int)) then
      gd ((apOK 8 (x6 + 1)) ∧ (x6 * 1 = (x12).length)) <|
      gd ((apOK 8 (x7 + 1)) ∧ (x7 * 1 = (x14).length)) <|
      F48_K5 x1 x10 x58 x63 x59 lo1 x6 x7 (x12 ++ ([(.int .i64 ((-1) : Int))] : List PD)) (x14 ++ ([(.int .i64 (0 : Int))] : List PD)) x65
    else
      gd (0 ≤ (IntKind.wrap .i64 ((x59 : Int) - (1 : Int))) ∧ (IntKind.wrap .i64 ((x59 : Int) - (1 : Int))) < (x59 : Nat)) <|
      gd (((((IntKind.wrap .i64 ((x59 : Int) - (1 : Int)))).toNat * 1) < (x65).length) ∧ (isI .i64 ((x65).getD (((IntKind.wrap .i64 ((x59 : Int) - (1 : Int)))).toNat * 1) .nil) = true)) <|
      gd (0 ≤ (IntKind.wrap .i64 ((x59 : Int) - (1 : Int))) ∧ (IntKind.wrap .i64 ((x59 : Int) - (1 : Int))) < (x59 : Nat)) <|
      gd ((((IntKind.wrap .i64 ((x59 : Int) - (1 : Int)))).toNat * 1) + 1 ≤ (x65).length) <|
      gd (0 ≤ (IntKind.wrap .i64 ((x58 : Int) - (1 : Int))) ∧ (IntKind.wrap .i64 ((x58 : Int) - (1 : Int))) < (x58 : Nat)) <|
      gd (((((IntKind.wrap .i64 ((x58 : Int) - (1 : Int)))).toNat * 1) < (x63).length) ∧ (isI .i64 ((x63).getD (((IntKind.wrap .i64 ((x58 : Int) - (1 : Int)))).toNat * 1) .nil) = true)) <|
      gd ((apOK 8 (x6 + 1)) ∧ (x6 * 1 = (x12).length)) <|
      gd ((apOK 8 (x7 + 1)) ∧ (x7 * 1 = (x14).length)) <|
      F48_K5 x1 x10 x58 x63 x59 lo1 x6 x7 (x12 ++ ([(.int .i64 (intD ((x63).getD (((IntKind.wrap .i64 ((x58 : Int) - (1 : Int)))).toNat * 1) .nil)))] : List PD)) (x14 ++ ([(.int .i64 (x58 : Int))] : List PD)) (setD x65 (((IntKind.wrap .i64 ((x59 : Int) - (1 : Int)))).toNat * 1) [(.int .i64 (IntKind.wrap .i64 ((intD ((x65).getD (((IntKind.wrap .i64 ((x59 : Int) - (1 : Int)))).toNat * 1) .nil)) - (1 : Int))))])

def J48_4 (C : Ctx) (N : Nat) (hp : HP) (x58 : Nat) (x59 : Nat) (lo3 : Nat → Nat → List PD → List PD → Option (PD × PD)) (x63 : List PD) (x65 : List PD) (x6 : Nat) (x12 : List PD) (x7 : Nat) (x14 : List PD) (x1 : PD) (x10 : Int) (lo1 : Nat → Nat → Nat → Nat → Int → List PD → List PD → List PD → List PD → Option (PD × PD)) (rr : PD × PD) (s : ASt) : Prop :=
  ∃ (hpx : HP) (v79 v80 v81 v82 : Nat) (x78 : Bool), Gh C s ⟨envL [(0, (PV.d true x1)), (4, (PV.own (N + 42) v79 0 x6)), (5, (PV.own (N + 45) v80 0 x7)), (6, (PV.own (N + 85) v81 0 x58)), (7, (PV.own (N + 93) v82 0 x59)), (8, (PV.d true (.int .i64 x10))), (26, (PV.d true (.bool x78)))], hpL N hpx [(42, (v79, some (.cells 3 ((x12).map (PV.d true))))), (45, (v80, some (.cells 3 ((x14).map (PV.d true))))), (85, (v81, some (.cells 3 ((x63).map (PV.d true))))), (93, (v82, some (.cells 3 ((x65).map (PV.d true)))))]⟩ ∧ (∀ id, id < N → hpx id = hp id) ∧ F48_K4 x58 x59 lo3 x63 x65 x6 x12 x7 x14 x1 x10 lo1 x78 = some rr

def F48_L3 (x6 : Nat) (x12 : List PD) (x7 : Nat) (x14 : List PD) (x1 : PD) (x10 : Int) (lo1 : Nat → Nat → Nat → Nat → Int → List PD → List PD → List PD → List PD → Option (PD × PD)) : Nat → Nat → Nat → List PD → List PD → Option (PD × PD)
  | 0, _, _, _, _ => none
  | m3 + 1, x58, x59, x63, x65 =>
    bif (decide ((0 : Int) < (x59 : Int))) then
      gd (0 ≤ (IntKind.wrap .i64 ((x59 : Int) - (1 : Int))) ∧ (IntKind.wrap .i64 ((x59 : Int) - (1 : Int))) < (x59 : Nat)) <|
      gd (((((IntKind.wrap .i64 ((x59 : Int) - (1 : Int)))).toNat * 1) < (x65).length) ∧ (isI .i64 ((x65).getD (((IntKind.wrap .i64 ((x59 : Int) - (1 : Int)))).toNat * 1) .nil) = true)) <|
      F48_K4 x58 x59 (F48_L3 x6 x12 x7 x14 x1 x10 lo1 m3) x63 x65 x6 x12 x7 x14 x1 x10 lo1 ((intD ((x65).getD (((IntKind.wrap .i64 ((x59 : Int) - (1 : Int)))).toNat * 1) .nil)) == (0 : Int))
    else
      F48_K4 x58 x59 (F48_L3 x6 x12 x7 x14 x1 x10 lo1 m3) x63 x65 x6 x12 x7 x14 x1 x10 lo1 false

def J48_3 (C : Ctx) (N : Nat) (hp : HP) (x6 : Nat) (x12 : List PD) (x7 : Nat) (x14 : List PD) (x1 : PD) (x10 : Int) (lo1 : Nat → Nat → Nat → Nat → Int → List PD → List PD → List PD → List PD → Option (PD × PD)) (rr : PD × PD) (mm : Nat) (s : ASt) : Prop :=
  ∃ (hpx : HP) (v60 v61 v62 v64 : Nat) (x58 : Nat) (x59 : Nat) (x63 : List PD) (x65 : List PD), Gh C s ⟨envL [(0, (PV.d true x1)), (4, (PV.own (N + 42) v60 0 x6)), (5, (PV.own (N + 45) v61 0 x7)), (6, (PV.own (N + 85) v62 0 x58)), (7, (PV.own (N + 93) v64 0 x59)), (8, (PV.d true (.int .i64 x10)))], hpL N hpx [(42, (v60, some (.cells 3 ((x12).map (PV.d true))))), (45, (v61, some (.cells 3 ((x14).map (PV.d true))))), (85, (v62, some (.cells 3 ((x63).map (PV.d true))))), (93, (v64, some (.cells 3 ((x65).map (PV.d true)))))]⟩ ∧ (∀ id, id < N → hpx id = hp id) ∧ F48_L3 x6 x12 x7 x14 x1 x10 lo1 mm x58 x59 x63 x65 = some rr

def F48_L1 (x1 : PD) (n : Nat) : Nat → Nat → Nat → Nat → Nat → Int → List PD → List PD → List PD → List PD → Option (PD × PD)
  | 0, _, _, _, _, _, _, _, _, _ => none
  | m1 + 1, x6, x7, x8, x9, x10, x12, x14, x16, x18 =>
    gd (isSlD x1 = true) <|
    bif (decide (x10 < (lenN x1 : Int))) then
      F48_L3 x6 x12 x7 x14 x1 x10 (F48_L1 x1 n m1) n x8 x9 x16 x18
    else
      gd (x6 * 1 = (x12).length) <|
      gd (x7 * 1 = (x14).length) <|
      some ((.lst x6 x12), (.lst x7 x14))

def J48_1 (C : Ctx) (N : Nat) (hp : HP) (x1 : PD) (n : Nat) (rr : PD × PD) (mm : Nat) (s : ASt) : Prop :=
  ∃ (hpx : HP) (v11 v13 v15 v17 : Nat) (x6 : Nat) (x7 : Nat) (x8 : Nat) (x9 : Nat) (x10 : Int) (x12 : List PD) (x14 : List PD) (x16 : List PD) (x18 : List PD), Gh C s ⟨envL [(0, (PV.d true x1)), (4, (PV.own (N + 42) v11 0 x6)), (5, (PV.own (N + 45) v13 0 x7)), (6, (PV.own (N + 85) v15 0 x8)), (7, (PV.own (N + 93) v17 0 x9)), (8, (PV.d true (.int .i64 x10)))], hpL N hpx [(42, (v11, some (.cells 3 ((x12).map (PV.d true))))), (45, (v13, some (.cells 3 ((x14).map (PV.d true))))), (85, (v15, some (.cells 3 ((x16).map (PV.d true))))), (93, (v17, some (.cells 3 ((x18).map (PV.d true)))))]⟩ ∧ (∀ id, id < N → hpx id = hp id) ∧ F48_L1 x1 n mm x6 x7 x8 x9 x10 x12 x14 x16 x18 = some rr

def F48 (n : Nat) (x1 : PD) : Option (PD × PD) :=
  F48_L1 x1 n n 0 0 0 0 (0 : Int) ([] : List PD) ([] : List PD) ([] : List PD) ([] : List PD)

set_option maxHeartbeats 4000000 in
theorem f48_calls {n : Nat} {x1 : PD} {r : PD × PD} (H : F48 n x1 = some r) (N : Nat) (hp : HP) : ACalls Try.prog 48 N [(PV.d true x1)] hp fun r' hp' => r' = (PV.d true (.tup [r.1, r.2])) ∧ hp' = hp := by
  unfold F48 at H
  refine acalls_body Try.func48 rfl rfl Try.ntmps48 (by simp) fun X hX => ?_
  refine awp_start (l := [(0, (PV.d true x1))]) (N := N) ⟨rfl, trivial⟩ ?_
  have hlow0 : ∀ id, id < N → hp id = hp id := fun _ _ => rfl
  refine awp_regionL fun y2 hy2 => ?_
  refine goL_s (st_as (v := (PV.d true .nil)) rfl) rfl ?_
  refine goL_s (st_as (v := (PV.d true .nil)) rfl) rfl ?_
  subst hy2
  refine awp_regionL fun y3 hy3 => ?_
  refine goL_s (st_as (v := (PV.d true .nil)) rfl) rfl ?_
  refine goL_s (st_as (v := (PV.d true .nil)) rfl) rfl ?_
  refine goL_s (st_as (v := (PV.d true .nil)) rfl) rfl ?_
  refine goL_s (st_as (v := (PV.d true .nil)) rfl) rfl ?_
  subst hy3
  refine awp_hide fun y4 hy4 => ?_
  refine awp_regionL fun y5 hy5 => ?_
  refine goL_s (st_as (v := (PV.d true (.int .i64 (0 : Int)))) rfl) rfl ?_
  subst hy5
  refine awp_block ?_
  refine awp_loop (J48_1 (mkC 96 N Try.prog hp X) N hp x1 n r) n ?_ ?_
  · unfold J48_1
    exact ⟨_, _, _, _, _, 0, 0, 0, 0, (0 : Int), ([] : List PD), ([] : List PD), ([] : List PD), ([] : List PD), ((Gh.virtE (t := 4) (d := 42) 3 (Nat.add_lt_add_left (show 42 < 96 by decide) N) rfl).trans (((Gh.virtE (t := 5) (d := 45) 3 (Nat.add_lt_add_left (show 45 < 96 by decide) N) rfl).trans (((Gh.virtE (t := 6) (d := 85) 3 (Nat.add_lt_add_left (show 85 < 96 by decide) N) rfl).trans (((Gh.virtE (t := 7) (d := 93) 3 (Nat.add_lt_add_left (show 93 < 96 by decide) N) rfl).trans (Gh.join ⟨rfl, rfl, rfl, rfl, rfl, rfl, trivial⟩ ⟨(hpL_miss rfl (hpL_miss rfl (hpL_miss rfl hpL_hit))), (hpL_miss rfl (hpL_miss rfl hpL_hit)), (hpL_miss rfl hpL_hit), hpL_hit, trivial⟩)))))))), fun id hid => (hpL_low hid).trans (hlow0 id hid), H⟩
  · intro m1 s hJ
    unfold J48_1 at hJ
    obtain ⟨hpx32, v11, v13, v15, v17, x6, x7, x8, x9, x10, x12, x14, x16, x18, hG34, hlow33, H⟩ := hJ
    cases m1 with
    | zero => cases H
    | succ m1 =>
      rw [F48_L1] at H
      refine awp_gh hG34 ?_
      clear hG34
      refine awp_hide fun y35 hy35 => ?_
      refine awp_regionL fun y36 hy36 => ?_
      refine goL_s (st_mv (v := (PV.d true (.int .i64 x10))) rfl) rfl ?_
      refine goL_s (st_mv (v := (PV.d true x1)) rfl) rfl ?_
      obtain ⟨g37, H⟩ := gd_out H
      refine goL_s (st_len_d (id := 0) sl_26 rfl g37) rfl ?_
      refine goL_s (st_bin rfl rfl rfl rfl trivial) rfl ?_
      subst hy36
      refine awp_ifL (b := (decide (x10 < (lenN x1 : Int)))) rfl (fun y39 hy39 hb38 => ?_) (fun y39 hy39 hb38 => ?_)
      · replace H := cond_t H hb38
        subst hy39
        refine awp_skip ?_
        refine thenA_n ?_
        subst hy35
        refine awp_cut (J48_2 (mkC 96 N Try.prog hp X) N hp (F48_L1 x1 n m1) x6 x7 x10 x1 r) ?_ ?_
        · refine awp_block ?_
          refine awp_hide fun y53 hy53 => ?_
          refine awp_block ?_
          refine awp_loop (J48_3 (mkC 96 N Try.prog hp X) N hp x6 x12 x7 x14 x1 x10 (F48_L1 x1 n m1) r) n ?_ ?_
          · unfold J48_3
            exact ⟨_, v11, v13, v15, v17, x8, x9, x16, x18, Gh.join ⟨rfl, rfl, rfl, rfl, rfl, rfl, trivial⟩ ⟨hpL_hit, (hpL_miss rfl hpL_hit), (hpL_miss rfl (hpL_miss rfl hpL_hit)), (hpL_miss rfl (hpL_miss rfl (hpL_miss rfl hpL_hit))), trivial⟩, fun id hid => (hpL_low hid).trans (hlow33 id hid), H⟩
          · intro m3 s hJ
            unfold J48_3 at hJ
            obtain ⟨hpx74, v60, v61, v62, v64, x58, x59, x63, x65, hG76, hlow75, H⟩ := hJ
            cases m3 with
            | zero => cases H
            | succ m3 =>
              rw [F48_L3] at H
              refine awp_gh hG76 ?_
              clear hG76
              refine awp_hide fun y77 hy77 => ?_
              refine awp_cut (J48_4 (mkC 96 N Try.prog hp X) N hp x58 x59 (F48_L3 x6 x12 x7 x14 x1 x10 (F48_L1 x1 n m1) m3) x63 x65 x6 x12 x7 x14 x1 x10 (F48_L1 x1 n m1) r) ?_ ?_
              · refine awp_regionL1 ?_
                refine goL_s (st_mv (v := (PV.own (N + 93) v64 0 x59)) rfl) rfl ?_
                refine goL_s (st_len_o sl_22 rfl (hpL_miss rfl (hpL_miss rfl (hpL_miss rfl hpL_hit)))) rfl ?_
                refine goL_s (st_bin rfl rfl rfl rfl trivial) rfl ?_
                refine goL_s (st_mv (v := (PV.d true (.bool (decide ((0 : Int) < (x59 : Int)))))) rfl) rfl ?_
                refine goL_fork (decide ((0 : Int) < (x59 : Int))) (fun hb161 => ?_) (fun hb161 => ?_)
                · replace H := cond_t H hb161
                  refine goL_gT rfl rfl hb161 ?_
                  refine goL_s (st_mv (v := (PV.own (N + 93) v64 0 x59)) rfl) rfl ?_
                  refine goL_gT rfl rfl hb161 ?_
                  refine goL_s (st_mv (v := (PV.own (N + 93) v64 0 x59)) rfl) rfl ?_
                  refine goL_gT rfl rfl hb161 ?_
                  refine goL_s (st_len_o sl_22 rfl (hpL_miss rfl (hpL_miss rfl (hpL_miss rfl hpL_hit)))) rfl ?_
                  refine goL_gT rfl rfl hb161 ?_
                  refine goL_s (st_bin rfl rfl rfl rfl trivial) rfl ?_
                  obtain ⟨g162, H⟩ := gd_out H
                  refine goL_gT rfl rfl hb161 ?_
                  refine goL_s (st_ia_o el_22 sz_3 (by decide) rfl (hpL_miss rfl (hpL_miss rfl (hpL_miss rfl hpL_hit))) rfl g162) rfl ?_
                  obtain ⟨⟨g163, g164⟩, H⟩ := gd_out H
                  refine goL_gT rfl rfl hb161 ?_
                  refine goL_s (st_ld_p (row := (x65).map (PV.d true)) ty_3 rfl (hpL_miss rfl (hpL_miss rfl (hpL_miss rfl hpL_hit))) (row_at g163 (cI' g164))) rfl ?_
                  refine goL_gT rfl rfl hb161 ?_
                  refine goL_s (st_bin rfl rfl rfl rfl trivial) rfl ?_
                  refine goL_s (st_pickT (v := (PV.d true (.bool ((intD ((x65).getD (((IntKind.wrap .i64 ((x59 : Int) - (1 : Int)))).toNat * 1) .nil)) == (0 : Int))))) rfl hb161 rfl) rfl ?_
                  refine thenA_n ?_
                  unfold J48_4
                  exact ⟨_, v60, v61, v62, v64, ((intD ((x65).getD (((IntKind.wrap .i64 ((x59 : Int) - (1 : Int)))).toNat * 1) .nil)) == (0 : Int)), Gh.join ⟨rfl, rfl, rfl, rfl, rfl, rfl, rfl, trivial⟩ ⟨hpL_hit, (hpL_miss rfl hpL_hit), (hpL_miss rfl (hpL_miss rfl hpL_hit)), (hpL_miss rfl (hpL_miss rfl (hpL_miss rfl hpL_hit))), trivial⟩, fun id hid => (hpL_low hid).trans (hlow75 id hid), H⟩
                · replace H := cond_f H hb161
                  refine goL_gF rfl rfl hb161 rfl ?_
                  refine goL_gF rfl rfl hb161 rfl ?_
                  refine goL_gF rfl rfl hb161 rfl ?_
                  refine goL_gF rfl rfl hb161 rfl ?_
                  refine goL_gF rfl rfl hb161 rfl ?_
                  refine goL_gF rfl rfl hb161 rfl ?_
                  refine goL_gF rfl rfl hb161 rfl ?_
                  refine goL_s (st_pickF (v := (PV.d true (.bool false))) rfl hb161 rfl) rfl ?_
                  refine thenA_n ?_
                  unfold J48_4
                  exact ⟨_, v60, v61, v62, v64, false, Gh.join ⟨rfl, rfl, rfl, rfl, rfl, rfl, rfl, trivial⟩ ⟨hpL_hit, (hpL_miss rfl hpL_hit), (hpL_miss rfl (hpL_miss rfl hpL_hit)), (hpL_miss rfl (hpL_miss rfl (hpL_miss rfl hpL_hit))), trivial⟩, fun id hid => (hpL_low hid).trans (hlow75 id hid), H⟩
              · intro s hJ
                unfold J48_4 at hJ
                obtain ⟨hpx83, v79, v80, v81, v82, x78, hG85, hlow84, H⟩ := hJ
                unfold F48_K4 at H
                refine awp_gh hG85 ?_
                clear hG85
                refine awp_ifL (b := x78) rfl (fun y87 hy87 hb86 => ?_) (fun y87 hy87 hb86 => ?_)
                · replace H := cond_t H hb86
                  subst hy87
                  refine awp_skip ?_
                  refine thenA_n ?_
                  subst hy77
                  refine awp_block ?_
                  refine awp_drawL1 13 11 [] follows_any (by kernel_rfl) (by kernel_rfl) (by kernel_rfl) (by kernel_rfl) fun opsd88 Kd88 hod88 hKd88 => ?_
                  refine goA_s trivial (st_mv (v := (PV.own (N + 85) v81 0 x58)) rfl) rfl fun rd0 => ?_
                  refine goA_s trivial (st_mv (v := (PV.own (N + 85) v81 0 x58)) rfl) rfl fun rd1 => ?_
                  refine goA_s trivial (st_len_o sl_22 rfl (hpL_miss rfl (hpL_miss rfl hpL_hit))) rfl fun rd2 => ?_
                  refine goA_s trivial (st_bin rfl rfl rfl rfl trivial) rfl fun rd3 => ?_
                  obtain ⟨g89, H⟩ := gd_out H
                  refine goA_s trivial ((st_sl_front el_22 sz_3 (by decide) rfl (hpL_miss rfl (hpL_miss rfl hpL_hit)) rfl g89)) rfl fun rd4 => ?_
                  refine goA_s trivial (st_mv (v := (PV.own (N + 93) v82 0 x59)) rfl) rfl fun rd5 => ?_
                  refine goA_s trivial (st_mv (v := (PV.own (N + 93) v82 0 x59)) rfl) rfl fun rd6 => ?_
                  refine goA_s trivial (st_len_o sl_22 rfl (hpL_miss rfl (hpL_miss rfl (hpL_miss rfl hpL_hit)))) rfl fun rd7 => ?_
                  refine goA_s trivial (st_bin rfl rfl rfl rfl trivial) rfl fun rd8 => ?_
                  obtain ⟨g90, H⟩ := gd_out H
                  refine goA_s trivial ((st_sl_front el_22 sz_3 (by decide) rfl (hpL_miss rfl (hpL_miss rfl (hpL_miss rfl hpL_hit))) rfl g90)) rfl fun rd9 => ?_
                  refine goA_s trivial (st_as (v := (PV.own (N + 85) v81 0 ((IntKind.wrap .i64 ((x58 : Int) - (1 : Int)))).toNat)) rfl) rfl fun rd10 => ?_
                  refine goA_nil ?_
                  rw [hKd88]
                  refine ⟨?_, goOps_goL ?_⟩
                  · trivial
                  refine goL_s (st_as (v := (PV.own (N + 93) v82 0 ((IntKind.wrap .i64 ((x59 : Int) - (1 : Int)))).toNat)) rfl) rfl ?_
                  refine blockA_n ?_
                  refine thenA_n ?_
                  refine ⟨m3, Nat.lt_succ_self _, ?_⟩
                  unfold J48_3
                  exact ⟨_, v79, v80, v81, v82, ((IntKind.wrap .i64 ((x58 : Int) - (1 : Int)))).toNat, ((IntKind.wrap .i64 ((x59 : Int) - (1 : Int)))).toNat, ((x63).take (((IntKind.wrap .i64 ((x58 : Int) - (1 : Int)))).toNat * 1)), ((x65).take (((IntKind.wrap .i64 ((x59 : Int) - (1 : Int)))).toNat * 1)), ((Gh.truncL (((IntKind.wrap .i64 ((x58 : Int) - (1 : Int)))).toNat * 1) (hpL_miss rfl (hpL_miss rfl hpL_hit))).trans (((Gh.truncL (((IntKind.wrap .i64 ((x59 : Int) - (1 : Int)))).toNat * 1) (hpL_miss rfl (hpL_miss rfl (hpL_miss rfl (hpL_miss rfl hpL_hit))))).trans (Gh.join ⟨rfl, rfl, rfl, rfl, rfl, rfl, trivial⟩ ⟨(hpL_miss rfl (hpL_miss rfl hpL_hit)), (hpL_miss rfl (hpL_miss rfl (hpL_miss rfl hpL_hit))), (hpL_miss rfl hpL_hit), hpL_hit, trivial⟩)))), fun id hid => (hpL_low hid).trans (hlow84 id hid), H⟩
                · replace H := cond_f H hb86
                  subst hy87
                  refine awp_exit ?_
                  refine thenA_e ?_
                  refine thenA_e ?_
                  refine blockA_h ?_
                  refine thenA_n ?_
                  subst hy53
                  refine awp_cut (J48_5 (mkC 96 N Try.prog hp X) N hp x1 x10 x58 x63 x59 (F48_L1 x1 n m1) x6 x7 r) ?_ ?_
                  · refine awp_regionL fun y133 hy133 => ?_
                    refine goL_s (st_mv (v := (PV.own (N + 93) v82 0 x59)) rfl) rfl ?_
                    refine goL_s (st_len_o sl_22 rfl (hpL_miss rfl (hpL_miss rfl (hpL_miss rfl hpL_hit)))) rfl ?_
                    refine goL_s (st_bin rfl rfl rfl rfl trivial) rfl ?_
                    subst hy133
                    refine awp_ifL (b := ((x59 : Int) == (0 : Int))) rfl (fun y135 hy135 hb134 => ?_) (fun y135 hy135 hb134 => ?_)
                    · replace H := cond_t H hb134
                      subst hy135
                      refine awp_regionL1 ?_
                      refine goL_s (st_mv (v := (PV.own (N + 42) v79 0 x6)) rfl) rfl ?_
                      refine goL_n (d' := 41) (st_bs1 (x := (PV.d true (.int .i64 ((-1) : Int)))) (cs := [(PV.d true (.int .i64 ((-1) : Int)))]) el_22 ze_3 sz_3 (by decide) rfl (by decide) rfl rfl rfl ⟨rfl, trivial⟩) rfl fun v136 => ?_
                      obtain ⟨⟨g137, g138⟩, H⟩ := gd_out H
                      refine goL_n (d' := 42) (st_ap_o (row := (x12).map (PV.d true)) (news := (([(.int .i64 ((-1) : Int))] : List PD)).map (PV.d true)) (m := 1) (vy := (PV.own (N + 41) v136 0 1)) el_22 ze_3 sz_3 by_3 (by decide) rfl rfl (hpL_miss rfl hpL_hit) rfl (src_own sz_3 hpL_hit rfl) g137 (by rw [List.length_map]; exact g138) (app_D _ _)) rfl fun v139 => ?_
                      refine goL_s (st_mv (v := (PV.own (N + 45) v80 0 x7)) rfl) rfl ?_
                      refine goL_n (d' := 44) (st_bs1 (x := (PV.d true (.int .i64 (0 : Int)))) (cs := [(PV.d true (.int .i64 (0 : Int)))]) el_22 ze_3 sz_3 (by decide) rfl (by decide) rfl rfl rfl ⟨rfl, trivial⟩) rfl fun v140 => ?_
                      obtain ⟨⟨g141, g142⟩, H⟩ := gd_out H
                      refine goL_n (d' := 45) (st_ap_o (row := (x14).map (PV.d true)) (news := (([(.int .i64 (0 : Int))] : List PD)).map (PV.d true)) (m := 1) (vy := (PV.own (N + 44) v140 0 1)) el_22 ze_3 sz_3 by_3 (by decide) rfl rfl (hpL_miss rfl (hpL_miss rfl (hpL_miss rfl (hpL_miss rfl hpL_hit)))) rfl (src_own sz_3 hpL_hit rfl) g141 (by rw [List.length_map]; exact g142) (app_D _ _)) rfl fun v143 => ?_
                      refine goL_s (st_as (v := (PV.own (N + 42) v139 0 (x6 + 1))) rfl) rfl ?_
                      refine goL_s (st_as (v := (PV.own (N + 45) v143 0 (x7 + 1))) rfl) rfl ?_
                      refine thenA_n ?_
                      unfold J48_5
                      exact ⟨_, v139, v143, v81, v82, (x12 ++ ([(.int .i64 ((-1) : Int))] : List PD)), (x14 ++ ([(.int .i64 (0 : Int))] : List PD)), x65, Gh.join ⟨rfl, rfl, rfl, rfl, rfl, rfl, trivial⟩ ⟨(hpL_miss rfl (hpL_miss rfl hpL_hit)), hpL_hit, (hpL_miss rfl (hpL_miss rfl (hpL_miss rfl (hpL_miss rfl (hpL_miss rfl (hpL_miss rfl hpL_hit)))))), (hpL_miss rfl (hpL_miss rfl (hpL_miss rfl (hpL_miss rfl (hpL_miss rfl (hpL_miss rfl (hpL_miss rfl hpL_hit))))))), trivial⟩, fun id hid => (hpL_low hid).trans (hlow84 id hid), H⟩
                    · replace H := cond_f H hb134
                      subst hy135
                      refine awp_regionL fun y144 hy144 => ?_
                      refine goL_s (st_mv (v := (PV.own (N + 93) v82 0 x59)) rfl) rfl ?_
                      refine goL_s (st_mv (v := (PV.own (N + 93) v82 0 x59)) rfl) rfl ?_
                      refine goL_s (st_len_o sl_22 rfl (hpL_miss rfl (hpL_miss rfl (hpL_miss rfl hpL_hit)))) rfl ?_
                      refine goL_s (st_bin rfl rfl rfl rfl trivial) rfl ?_
                      obtain ⟨g145, H⟩ := gd_out H
                      refine goL_s (st_ia_o el_22 sz_3 (by decide) rfl (hpL_miss rfl (hpL_miss rfl (hpL_miss rfl hpL_hit))) rfl g145) rfl ?_
                      obtain ⟨⟨g146, g147⟩, H⟩ := gd_out H
                      refine goL_s (st_ld_p (row := (x65).map (PV.d true)) ty_3 rfl (hpL_miss rfl (hpL_miss rfl (hpL_miss rfl hpL_hit))) (row_at g146 (cI' g147))) rfl ?_
                      refine goL_s (st_bin rfl rfl rfl rfl trivial) rfl ?_
                      obtain ⟨g148, H⟩ := gd_out H
                      refine goL_s (st_ia_o el_22 sz_3 (by decide) rfl (hpL_miss rfl (hpL_miss rfl (hpL_miss rfl hpL_hit))) rfl g148) rfl ?_
                      obtain ⟨g149, H⟩ := gd_out H
                      refine goL_o0 (st_sto (x := (PV.d true (.int .i64 (IntKind.wrap .i64 ((intD ((x65).getD (((IntKind.wrap .i64 ((x59 : Int) - (1 : Int)))).toNat * 1) .nil)) - (1 : Int)))))) (cs := ([(.int .i64 (IntKind.wrap .i64 ((intD ((x65).getD (((IntKind.wrap .i64 ((x59 : Int) - (1 : Int)))).toNat * 1) .nil)) - (1 : Int))))] : List PD).map (PV.d true)) (row := (x65).map (PV.d true)) ty_3 rfl (hpL_miss rfl (hpL_miss rfl (hpL_miss rfl hpL_hit))) rfl rfl rfl (by rw [List.length_map]; exact g149) ⟨rfl, trivial⟩ row_setD) rfl ?_
                      subst hy144
                      refine awp_regionL1 ?_
                      refine goL_s (st_mv (v := (PV.own (N + 42) v79 0 x6)) rfl) rfl ?_
                      refine goL_s (st_mv (v := (PV.own (N + 85) v81 0 x58)) rfl) rfl ?_
                      refine goL_s (st_mv (v := (PV.own (N + 85) v81 0 x58)) rfl) rfl ?_
                      refine goL_s (st_len_o sl_22 rfl (hpL_miss rfl (hpL_miss rfl (hpL_miss rfl hpL_hit)))) rfl ?_
                      refine goL_s (st_bin rfl rfl rfl rfl trivial) rfl ?_
                      obtain ⟨g150, H⟩ := gd_out H
                      refine goL_s (st_ia_o el_22 sz_3 (by decide) rfl (hpL_miss rfl (hpL_miss rfl (hpL_miss rfl hpL_hit))) rfl g150) rfl ?_
                      obtain ⟨⟨g151, g152⟩, H⟩ := gd_out H
                      refine goL_s (st_ld_p (row := (x63).map (PV.d true)) ty_3 rfl (hpL_miss rfl (hpL_miss rfl (hpL_miss rfl hpL_hit))) (row_at g151 (cI' g152))) rfl ?_
                      refine goL_n (d' := 61) (st_bs1 (x := (PV.d true (.int .i64 (intD ((x63).getD (((IntKind.wrap .i64 ((x58 : Int) - (1 : Int)))).toNat * 1) .nil))))) (cs := [(PV.d true (.int .i64 (intD ((x63).getD (((IntKind.wrap .i64 ((x58 : Int) - (1 : Int)))).toNat * 1) .nil))))]) el_22 ze_3 sz_3 (by decide) rfl (by decide) rfl rfl rfl ⟨rfl, trivial⟩) rfl fun v153 => ?_
                      obtain ⟨⟨g154, g155⟩, H⟩ := gd_out H
                      refine goL_n (d' := 42) (st_ap_o (row := (x12).map (PV.d true)) (news := (([(.int .i64 (intD ((x63).getD (((IntKind.wrap .i64 ((x58 : Int) - (1 : Int)))).toNat * 1) .nil)))] : List PD)).map (PV.d true)) (m := 1) (vy := (PV.own (N + 61) v153 0 1)) el_22 ze_3 sz_3 by_3 (by decide) rfl rfl (hpL_miss rfl (hpL_miss rfl hpL_hit)) rfl (src_own sz_3 hpL_hit rfl) g154 (by rw [List.length_map]; exact g155) (app_D _ _)) rfl fun v156 => ?_
                      refine goL_s (st_mv (v := (PV.own (N + 45) v80 0 x7)) rfl) rfl ?_
                      refine goL_s (st_mv (v := (PV.own (N + 85) v81 0 x58)) rfl) rfl ?_
                      refine goL_s (st_len_o sl_22 rfl (hpL_miss rfl (hpL_miss rfl (hpL_miss rfl (hpL_miss rfl (hpL_miss rfl hpL_hit)))))) rfl ?_
                      refine goL_n (d' := 66) (st_bs1 (x := (PV.d true (.int .i64 (x58 : Int)))) (cs := [(PV.d true (.int .i64 (x58 : Int)))]) el_22 ze_3 sz_3 (by decide) rfl (by decide) rfl rfl rfl ⟨rfl, trivial⟩) rfl fun v157 => ?_
                      obtain ⟨⟨g158, g159⟩, H⟩ := gd_out H
                      refine goL_n (d' := 45) (st_ap_o (row := (x14).map (PV.d true)) (news := (([(.int .i64 (x58 : Int))] : List PD)).map (PV.d true)) (m := 1) (vy := (PV.own (N + 66) v157 0 1)) el_22 ze_3 sz_3 by_3 (by decide) rfl rfl (hpL_miss rfl (hpL_miss rfl (hpL_miss rfl (hpL_miss rfl (hpL_miss rfl hpL_hit))))) rfl (src_own sz_3 hpL_hit rfl) g158 (by rw [List.length_map]; exact g159) (app_D _ _)) rfl fun v160 => ?_
                      refine goL_s (st_as (v := (PV.own (N + 42) v156 0 (x6 + 1))) rfl) rfl ?_
                      refine goL_s (st_as (v := (PV.own (N + 45) v160 0 (x7 + 1))) rfl) rfl ?_
                      refine thenA_n ?_
                      unfold J48_5
                      exact ⟨_, v156, v160, v81, v82, (x12 ++ ([(.int .i64 (intD ((x63).getD (((IntKind.wrap .i64 ((x58 : Int) - (1 : Int)))).toNat * 1) .nil)))] : List PD)), (x14 ++ ([(.int .i64 (x58 : Int))] : List PD)), (setD x65 (((IntKind.wrap .i64 ((x59 : Int) - (1 : Int)))).toNat * 1) [(.int .i64 (IntKind.wrap .i64 ((intD ((x65).getD (((IntKind.wrap .i64 ((x59 : Int) - (1 : Int)))).toNat * 1) .nil)) - (1 : Int))))]), Gh.join ⟨rfl, rfl, rfl, rfl, rfl, rfl, trivial⟩ ⟨(hpL_miss rfl (hpL_miss rfl hpL_hit)), hpL_hit, (hpL_miss rfl (hpL_miss rfl (hpL_miss rfl (hpL_miss rfl (hpL_miss rfl (hpL_miss rfl (hpL_miss rfl hpL_hit))))))), (hpL_miss rfl (hpL_miss rfl (hpL_miss rfl (hpL_miss rfl hpL_hit)))), trivial⟩, fun id hid => (hpL_low hid).trans (hlow84 id hid), H⟩
                  · intro s hJ
                    unfold J48_5 at hJ
                    obtain ⟨hpx98, v91, v93, v95, v96, x92, x94, x97, hG100, hlow99, H⟩ := hJ
                    unfold F48_K5 at H
                    refine awp_gh hG100 ?_
                    clear hG100
                    refine awp_cut (J48_6 (mkC 96 N Try.prog hp X) N hp x58 x63 x1 x10 x59 x97 (F48_L1 x1 n m1) x6 x7 x92 x94 r) ?_ ?_
                    · refine awp_regionL1 ?_
                      refine goL_s (st_mv (v := (PV.d true x1)) rfl) rfl ?_
                      refine goL_s (st_mv (v := (PV.d true (.int .i64 x10))) rfl) rfl ?_
                      obtain ⟨g124, H⟩ := gd_out H
                      refine goL_s (st_ia_d el_26 sz_61 (by decide) (y := x1) rfl rfl g124) rfl ?_
                      obtain ⟨g125, H⟩ := gd_out H
                      refine goL_s (st_fa_lp fi_61_2 (by decide) rfl g125) rfl ?_
                      obtain ⟨⟨g126, g127⟩, H⟩ := gd_out H
                      refine goL_s (st_ld_lp ty_3 rfl g126 (cI g127)) rfl ?_
                      refine goL_s (st_bin rfl rfl rfl rfl trivial) rfl ?_
                      refine goL_s (st_mv (v := (PV.d true (.bool ((intD ((((((cellsD x1).drop ((x10).toNat * 4))).drop 2)).getD 0 .nil)) == (0 : Int))))) rfl) rfl ?_
                      refine goL_fork ((intD ((((((cellsD x1).drop ((x10).toNat * 4))).drop 2)).getD 0 .nil)) == (0 : Int)) (fun hb128 => ?_) (fun hb128 => ?_)
                      · replace H := cond_t H hb128
                        refine goL_gT rfl rfl hb128 ?_
                        refine goL_s (st_mv (v := (PV.d true x1)) rfl) rfl ?_
                        refine goL_gT rfl rfl hb128 ?_
                        refine goL_s (st_mv (v := (PV.d true (.int .i64 x10))) rfl) rfl ?_
                        obtain ⟨g129, H⟩ := gd_out H
                        refine goL_gT rfl rfl hb128 ?_
                        refine goL_s (st_ia_d el_26 sz_61 (by decide) (y := x1) rfl rfl g129) rfl ?_
                        obtain ⟨g130, H⟩ := gd_out H
                        refine goL_gT rfl rfl hb128 ?_
                        refine goL_s (st_fa_lp fi_61_3 (by decide) rfl g130) rfl ?_
                        obtain ⟨⟨g131, g132⟩, H⟩ := gd_out H
                        refine goL_gT rfl rfl hb128 ?_
                        refine goL_s (st_ld_lp ty_3 rfl g131 (cI g132)) rfl ?_
                        refine goL_gT rfl rfl hb128 ?_
                        refine goL_s (st_bin rfl rfl rfl rfl trivial) rfl ?_
                        refine goL_s (st_pickT (v := (PV.d true (.bool (decide ((0 : Int) < (intD ((((((cellsD x1).drop ((x10).toNat * 4))).drop 3)).getD 0 .nil))))))) rfl hb128 rfl) rfl ?_
                        refine thenA_n ?_
                        unfold J48_6
                        exact ⟨_, v91, v93, v95, v96, (decide ((0 : Int) < (intD ((((((cellsD x1).drop ((x10).toNat * 4))).drop 3)).getD 0 .nil)))), Gh.join ⟨rfl, rfl, rfl, rfl, rfl, rfl, rfl, trivial⟩ ⟨hpL_hit, (hpL_miss rfl hpL_hit), (hpL_miss rfl (hpL_miss rfl hpL_hit)), (hpL_miss rfl (hpL_miss rfl (hpL_miss rfl hpL_hit))), trivial⟩, fun id hid => (hpL_low hid).trans (hlow99 id hid), H⟩
                      · replace H := cond_f H hb128
                        refine goL_gF rfl rfl hb128 rfl ?_
                        refine goL_gF rfl rfl hb128 rfl ?_
                        refine goL_gF rfl rfl hb128 rfl ?_
                        refine goL_gF rfl rfl hb128 rfl ?_
                        refine goL_gF rfl rfl hb128 rfl ?_
                        refine goL_gF rfl rfl hb128 rfl ?_
                        refine goL_s (st_pickF (v := (PV.d true (.bool false))) rfl hb128 rfl) rfl ?_
                        refine thenA_n ?_
                        unfold J48_6
                        exact ⟨_, v91, v93, v95, v96, false, Gh.join ⟨rfl, rfl, rfl, rfl, rfl, rfl, rfl, trivial⟩ ⟨hpL_hit, (hpL_miss rfl hpL_hit), (hpL_miss rfl (hpL_miss rfl hpL_hit)), (hpL_miss rfl (hpL_miss rfl (hpL_miss rfl hpL_hit))), trivial⟩, fun id hid => (hpL_low hid).trans (hlow99 id hid), H⟩
                    · intro s hJ
                      unfold J48_6 at hJ
                      obtain ⟨hpx106, v102, v103, v104, v105, x101, hG108, hlow107, H⟩ := hJ
                      unfold F48_K6 at H
                      refine awp_gh hG108 ?_
                      clear hG108
                      refine awp_ifL (b := x101) rfl (fun y110 hy110 hb109 => ?_) (fun y110 hy110 hb109 => ?_)
                      · replace H := cond_t H hb109
                        subst hy110
                        refine awp_drawL1 15 11 [(0, 3), (1, 2), (1, 3), (2, 3), (5, 10), (6, 10), (7, 10), (8, 10), (9, 10)] follows_any (by kernel_rfl) (by kernel_rfl) (by kernel_rfl) (by kernel_rfl) fun opsd111 Kd111 hod111 hKd111 => ?_
                        refine goA_r (rd := []) trivial (st_mv (v := (PV.own (N + 85) v104 0 x58)) rfl) rfl rfl ?_
                        refine goA_r (rd := []) trivial (st_mv (v := (PV.d true (.int .i64 x10))) rfl) rfl rfl ?_
                        refine goA_n (d' := 84) (rd := [(N + 84)]) trivial (st_bs1 (x := (PV.d true (.int .i64 x10))) (cs := [(PV.d true (.int .i64 x10))]) el_22 ze_3 sz_3 (by decide) rfl (by decide) rfl rfl rfl ⟨rfl, trivial⟩) rfl rfl fun v112 => ?_
                        obtain ⟨⟨g113, g114⟩, H⟩ := gd_out H
                        refine goA_n (d' := 85) (rd := [(N + 85), (N + 84), (N + 85)]) trivial (st_ap_o (row := (x63).map (PV.d true)) (news := (([(.int .i64 x10)] : List PD)).map (PV.d true)) (m := 1) (vy := (PV.own (N + 84) v112 0 1)) el_22 ze_3 sz_3 by_3 (by decide) rfl rfl (hpL_miss rfl (hpL_miss rfl (hpL_miss rfl hpL_hit))) rfl (src_own sz_3 hpL_hit rfl) g113 (by rw [List.length_map]; exact g114) (app_D _ _)) rfl rfl fun v115 => ?_
                        refine goA_r (rd := []) trivial (st_mv (v := (PV.own (N + 93) v105 0 x59)) rfl) rfl rfl ?_
                        refine goA_r (rd := []) trivial (st_mv (v := (PV.d true x1)) rfl) rfl rfl ?_
                        refine goA_r (rd := []) trivial (st_mv (v := (PV.d true (.int .i64 x10))) rfl) rfl rfl ?_
                        obtain ⟨g116, H⟩ := gd_out H
                        refine goA_r (rd := []) trivial (st_ia_d el_26 sz_61 (by decide) (y := x1) rfl rfl g116) rfl rfl ?_
                        obtain ⟨g117, H⟩ := gd_out H
                        refine goA_r (rd := []) trivial (st_fa_lp fi_61_3 (by decide) rfl g117) rfl rfl ?_
                        obtain ⟨⟨g118, g119⟩, H⟩ := gd_out H
                        refine goA_r (rd := []) trivial (st_ld_lp ty_3 rfl g118 (cI g119)) rfl rfl ?_
                        refine goA_n (d' := 92) (rd := [(N + 92)]) trivial (st_bs1 (x := (PV.d true (.int .i64 (intD ((((((cellsD x1).drop ((x10).toNat * 4))).drop 3)).getD 0 .nil))))) (cs := [(PV.d true (.int .i64 (intD ((((((cellsD x1).drop ((x10).toNat * 4))).drop 3)).getD 0 .nil))))]) el_22 ze_3 sz_3 (by decide) rfl (by decide) rfl rfl rfl ⟨rfl, trivial⟩) rfl rfl fun v120 => ?_
                        refine goA_nil ?_
                        rw [hKd111]
                        refine ⟨?_, goOps_goL ?_⟩
                        · simp [objsW, objsY]
                        obtain ⟨⟨g121, g122⟩, H⟩ := gd_out H
                        refine goL_n (d' := 93) (st_ap_o (row := (x97).map (PV.d true)) (news := (([(.int .i64 (intD ((((((cellsD x1).drop ((x10).toNat * 4))).drop 3)).getD 0 .nil)))] : List PD)).map (PV.d true)) (m := 1) (vy := (PV.own (N + 92) v120 0 1)) el_22 ze_3 sz_3 by_3 (by decide) rfl rfl (hpL_miss rfl (hpL_miss rfl (hpL_miss rfl (hpL_miss rfl (hpL_miss rfl (hpL_miss rfl hpL_hit)))))) rfl (src_own sz_3 hpL_hit rfl) g121 (by rw [List.length_map]; exact g122) (app_D _ _)) rfl fun v123 => ?_
                        refine goL_s (st_as (v := (PV.own (N + 85) v115 0 (x58 + 1))) rfl) rfl ?_
                        refine goL_s (st_as (v := (PV.own (N + 93) v123 0 (x59 + 1))) rfl) rfl ?_
                        refine blockA_n ?_
                        refine thenA_n ?_
                        unfold J48_2
                        exact ⟨_, v102, v103, v115, v123, (x58 + 1), (x59 + 1), x92, x94, (x63 ++ ([(.int .i64 x10)] : List PD)), (x97 ++ ([(.int .i64 (intD ((((((cellsD x1).drop ((x10).toNat * 4))).drop 3)).getD 0 .nil)))] : List PD)), Gh.join ⟨rfl, rfl, rfl, rfl, rfl, rfl, trivial⟩ ⟨(hpL_miss rfl (hpL_miss rfl (hpL_miss rfl (hpL_miss rfl hpL_hit)))), (hpL_miss rfl (hpL_miss rfl (hpL_miss rfl (hpL_miss rfl (hpL_miss rfl hpL_hit))))), (hpL_miss rfl (hpL_miss rfl hpL_hit)), hpL_hit, trivial⟩, fun id hid => (hpL_low hid).trans (hlow107 id hid), H⟩
                      · replace H := cond_f H hb109
                        subst hy110
                        refine awp_skip ?_
                        refine blockA_n ?_
                        refine thenA_n ?_
                        unfold J48_2
                        exact ⟨_, v102, v103, v104, v105, x58, x59, x92, x94, x63, x97, Gh.join ⟨rfl, rfl, rfl, rfl, rfl, rfl, trivial⟩ ⟨hpL_hit, (hpL_miss rfl hpL_hit), (hpL_miss rfl (hpL_miss rfl hpL_hit)), (hpL_miss rfl (hpL_miss rfl (hpL_miss rfl hpL_hit))), trivial⟩, fun id hid => (hpL_low hid).trans (hlow107 id hid), H⟩
        · intro s hJ
          unfold J48_2 at hJ
          obtain ⟨hpx50, v42, v44, v46, v48, x40, x41, x43, x45, x47, x49, hG52, hlow51, H⟩ := hJ
          unfold F48_K2 at H
          refine awp_gh hG52 ?_
          clear hG52
          refine awp_regionL1 ?_
          refine goL_s (st_mv (v := (PV.d true (.int .i64 x10))) rfl) rfl ?_
          refine goL_s (st_bin rfl rfl rfl rfl trivial) rfl ?_
          refine goL_s (st_as (v := (PV.d true (.int .i64 (IntKind.wrap .i64 (x10 + (1 : Int)))))) rfl) rfl ?_
          refine thenA_n ?_
          refine ⟨m1, Nat.lt_succ_self _, ?_⟩
          unfold J48_1
          exact ⟨_, v42, v44, v46, v48, (x6 + 1), (x7 + 1), x40, x41, (IntKind.wrap .i64 (x10 + (1 : Int))), x43, x45, x47, x49, Gh.join ⟨rfl, rfl, rfl, rfl, rfl, rfl, trivial⟩ ⟨hpL_hit, (hpL_miss rfl hpL_hit), (hpL_miss rfl (hpL_miss rfl hpL_hit)), (hpL_miss rfl (hpL_miss rfl (hpL_miss rfl hpL_hit))), trivial⟩, fun id hid => (hpL_low hid).trans (hlow51 id hid), H⟩
      · replace H := cond_f H hb38
        subst hy39
        refine awp_exit ?_
        refine thenA_e ?_
        refine thenA_e ?_
        refine blockA_h ?_
        refine thenA_n ?_
        subst hy4
        refine awp_regionL fun y165 hy165 => ?_
        refine goL_s (st_mv (v := (PV.own (N + 42) v11 0 x6)) rfl) rfl ?_
        refine goL_s (st_mv (v := (PV.own (N + 45) v13 0 x7)) rfl) rfl ?_
        refine goL_s (st_as (v := (PV.own (N + 42) v11 0 x6)) rfl) rfl ?_
        refine goL_s (st_as (v := (PV.own (N + 45) v13 0 x7)) rfl) rfl ?_
        subst hy165
        obtain ⟨g166, H⟩ := gd_out H
        refine awp_frzs [4, 94, 2] (R := x12) hX ⟨rfl, rfl, rfl, trivial⟩ hpL_hit (toDs_true _) (mul_sz sz_3 g166) ?_
        obtain ⟨g167, H⟩ := gd_out H
        refine awp_frzs [5, 95, 3] (R := x14) hX ⟨rfl, rfl, rfl, trivial⟩ (hpL_miss rfl (hpL_miss rfl hpL_hit)) (toDs_true _) (mul_sz sz_3 g167) ?_
        refine awp_ret ?_
        obtain rfl := Option.some.inj H
        exact retn (ds := [(.lst x6 x12), (.lst x7 x14)]) (by decide) (ResL.cons (res_t (x := (PV.d true (.lst x6 x12))) (d := (.lst x6 x12)) rfl rfl) (ResL.cons (res_t (x := (PV.d true (.lst x7 x14))) (d := (.lst x7 x14)) rfl rfl) ResL.nil)) (fun id hid => (hpL_low hid).trans (hlow33 id hid)) (fun _ _ => rfl) lowOK_same ⟨rfl, rfl⟩ (.inr rfl)

def F32 (n : Nat) (x1 : PD) : Option (PD) :=
  bd (F48 n x1) fun x4 =>
  some x4.1

set_option maxHeartbeats 4000000 in
theorem f32_calls {n : Nat} {x1 : PD} {r : PD} (H : F32 n x1 = some r) (N : Nat) (hp : HP) : ACalls Try.prog 32 N [(PV.d true x1)] hp fun r' hp' => r' = (PV.d true r) ∧ hp' = hp := by
  unfold F32 at H
  refine acalls_body Try.func32 rfl rfl Try.ntmps32 (by simp) fun X hX => ?_
  refine awp_start (l := [(0, (PV.d true x1))]) (N := N) ⟨rfl, trivial⟩ ?_
  have hlow0 : ∀ id, id < N → hp id = hp id := fun _ _ => rfl
  refine awp_regionL fun y2 hy2 => ?_
  refine goL_s (st_as (v := (PV.d true .nil)) rfl) rfl ?_
  subst hy2
  refine awp_regionL fun y3 hy3 => ?_
  refine goL_s (st_mv (v := (PV.d true x1)) rfl) rfl ?_
  obtain ⟨x4, c5, H⟩ := bd_out H
  refine goL_cp (args' := [(PV.d true x1)]) (r := (PV.d true (.tup [x4.1, x4.2]))) rfl rfl ⟨Wk.refl, trivial⟩ enter_48 rfl (f48_calls c5 (N + 11) _) ?_
  refine goL_s (st_mv (v := (PV.d true (.tup [x4.1, x4.2]))) rfl) rfl ?_
  refine goL_s (st_ext (c := (PV.d true x4.1)) rfl (Nat.le_of_ble_eq_true rfl) (dk_true _)) rfl ?_
  refine goL_s (st_ext (c := (PV.d true x4.2)) rfl (Nat.le_of_ble_eq_true rfl) (dk_true _)) rfl ?_
  refine goL_s (st_as (v := (PV.d true x4.1)) rfl) rfl ?_
  refine goL_s (st_as (v := (PV.d true x4.2)) rfl) rfl ?_
  subst hy3
  refine awp_regionL fun y6 hy6 => ?_
  refine goL_s (st_mv (v := (PV.d true x4.1)) rfl) rfl ?_
  refine goL_s (st_as (v := (PV.d true x4.1)) rfl) rfl ?_
  subst hy6
  refine awp_ret ?_
  obtain rfl := Option.some.inj H
  exact ret1 (res_t (x := (PV.d true x4.1)) (d := x4.1) rfl rfl) (fun id hid => (hpL_low hid).trans (hlow0 id hid)) (fun _ _ => rfl) lowOK_same ⟨rfl, rfl⟩ (.inr rfl)

def F16 (n : Nat) (x1 : PD) (x2 : Int) (x3 : List UInt8) (x4 : PD) : Option (Int) :=
  gd (isSlD x4 = true) <|
  bd (F32 n x1) fun x10 =>
  bd (F34 n x1 x10 (0 : Int) x2 x3 x4) fun x12 =>
  some x12

set_option maxHeartbeats 4000000 in
theorem f16_calls {n : Nat} {x1 : PD} {x2 : Int} {x3 : List UInt8} {x4 : PD} {r : Int} (H : F16 n x1 x2 x3 x4 = some r) (N : Nat) (hp : HP) : ACalls Try.prog 16 N [(PV.d true x1), (PV.agg [(PV.d true (.int .i64 x2)), (PV.d true (.str x3)), (PV.d true x4)])] hp fun r' hp' => r' = (PV.d true (.int .i64 r)) ∧ hp' = hp := by
  unfold F16 at H
  refine acalls_body Try.func16 rfl rfl Try.ntmps16 (by simp) fun X hX => ?_
  refine awp_start (l := [(0, (PV.d true x1)), (1, (PV.agg [(PV.d true (.int .i64 x2)), (PV.d true (.str x3)), (PV.d true x4)]))]) (N := N) ⟨rfl, rfl, trivial⟩ ?_
  have hlow0 : ∀ id, id < N → hp id = hp id := fun _ _ => rfl
  refine awp_regionL fun y5 hy5 => ?_
  obtain ⟨g6, H⟩ := gd_out H
  refine goL_n (d' := 3) (st_box (v := (PV.agg [(PV.d true (.int .i64 x2)), (PV.d true (.str x3)), (PV.d true x4)])) (cs := [(PV.d true (.int .i64 x2)), (PV.d true (.str x3)), (PV.d true x4)]) rfl rfl ⟨rfl, rfl, oneSl g6, trivial⟩) rfl fun v7 => ?_
  refine goL_s (st_as (v := (PV.d true (.int .i64 (0 : Int)))) rfl) rfl ?_
  subst hy5
  refine awp_drawL 7 4 [(1, 2)] follows_any (by kernel_rfl) (by kernel_rfl) (by kernel_rfl) (by kernel_rfl) fun opsd9 Kd9 hod9 hKd9 => ?_
  refine goA_r (rd := []) trivial (st_mv (v := (PV.d true x1)) rfl) rfl rfl ?_
  refine goA_r (rd := []) trivial (st_mv (v := (PV.d true x1)) rfl) rfl rfl ?_
  obtain ⟨x10, c11, H⟩ := bd_out H
  refine goA_callp (args' := [(PV.d true x1)]) (r := (PV.d true x10)) rfl rfl ⟨Wk.refl, trivial⟩ enter_32 rfl (fun hq => (f32_calls c11 (N + 10) hq)) ?_
  refine goA_r (rd := [(N + 3)]) trivial (st_ldA_p (cs := [(PV.d true (.int .i64 x2)), (PV.d true (.str x3)), (PV.d true x4)]) ty_65 rfl hpL_hit (Nat.le_of_ble_eq_true rfl) rfl) rfl rfl ?_
  refine goA_nil ?_
  rw [hKd9]
  refine ⟨?_, goOps_goL ?_⟩
  · simp [objsW, objsY]
  obtain ⟨x12, c13, H⟩ := bd_out H
  refine goL_cp (args' := [(PV.d true x1), (PV.d true x10), (PV.d true (.int .i64 (0 : Int))), (PV.agg [(PV.d true (.int .i64 x2)), (PV.d true (.str x3)), (PV.d true x4)])]) (r := (PV.d true (.int .i64 x12))) rfl rfl ⟨Wk.refl, ⟨Wk.refl, ⟨Wk.refl, ⟨Wk.refl, trivial⟩⟩⟩⟩ enter_34 rfl (f34_calls c13 (N + 10) _) ?_
  refine goL_s (st_as (v := (PV.d true (.int .i64 x12))) rfl) rfl ?_
  refine awp_ret ?_
  obtain rfl := Option.some.inj H
  exact ret1 (res_t (x := (PV.d true (.int .i64 x12))) (d := (.int .i64 x12)) rfl rfl) (fun id hid => (hpL_low hid).trans (hlow0 id hid)) (fun _ _ => rfl) lowOK_same ⟨rfl, rfl⟩ (.inr rfl)

end Go.Proofs.Ytfhpoffgnpgagaa
