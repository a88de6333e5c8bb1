/- Functions of the program: what each does, in plain Lean, and that it does. Laid by program. Condition of each: its model answers. -/
import Derived.Test.YtfhpoffgnpgagaaFn0
set_option linter.unusedSimpArgs false
set_option linter.unusedVariables false
namespace Go.Proofs.Ytfhpoffgnpgagaa
open Go Go.Proofs Go.Abs
set_option linter.unusedVariables false
set_option maxRecDepth 100000
def F6_K3 (lo1 : Nat → Nat → Int → List PD → List PD → Option (PD)) (x12 : Nat) (x14 : Int) (x38 : Nat) (x40 : List PD) (x42 : List PD) : Option (PD) :=
  lo1 (x12 + 1) x38 (IntKind.wrap .i64 (x14 + (1 : Int))) x40 x42

def J6_3 (C : Ctx) (N : Nat) (hp : HP) (lo1 : Nat → Nat → Int → List PD → List PD → Option (PD)) (x12 : Nat) (x14 : Int) (kq1 : Bool) (x2 : PD) (rr : PD) (s : ASt) : Prop :=
  ∃ (hpx : HP) (v39 v41 : Nat) (x38 : Nat) (x40 : List PD) (x42 : List PD), Gh C s ⟨envL [(0, (dk kq1 x2)), (3, (PV.own (N + 9) v39 0 (x12 + 1))), (4, (PV.own (N + 10) v41 0 x38)), (5, (PV.d true (.int .i64 x14)))], hpL N hpx [(9, (v39, some (.cells 61 ((x40).map (PV.d true))))), (10, (v41, some (.cells 3 ((x42).map (PV.d true)))))]⟩ ∧ (∀ id, id < N → hpx id = hp id) ∧ F6_K3 lo1 x12 x14 x38 x40 x42 = some rr

def F6_K6 (x56 : Nat) (x60 : List PD) (x12 : Nat) (x16 : List PD) (lo1 : Nat → Nat → Int → List PD → List PD → Option (PD)) (x14 : Int) (x88 : Int) (x100 : Int) : Option (PD) :=
  gd (0 ≤ (IntKind.wrap .i64 ((x56 : Int) - (1 : Int))) ∧ (IntKind.wrap .i64 ((x56 : Int) - (1 : Int))) < (x56 : Nat)) <|
  gd (((((IntKind.wrap .i64 ((x56 : Int) - (1 : Int)))).toNat * 1) < (x60).length) ∧ (isI .i64 ((x60).getD (((IntKind.wrap .i64 ((x56 : Int) - (1 : Int)))).toNat * 1) .nil) = true)) <|
  gd (0 ≤ (intD ((x60).getD (((IntKind.wrap .i64 ((x56 : Int) - (1 : Int)))).toNat * 1) .nil)) ∧ (intD ((x60).getD (((IntKind.wrap .i64 ((x56 : Int) - (1 : Int)))).toNat * 1) .nil)) < (x12 : Nat)) <|
  gd ((((((intD ((x60).getD (((IntKind.wrap .i64 ((x56 : Int) - (1 : Int)))).toNat * 1) .nil))).toNat * 4) + 3) < (x16).length) ∧ (isI .i64 ((x16).getD ((((intD ((x60).getD (((IntKind.wrap .i64 ((x56 : Int) - (1 : Int)))).toNat * 1) .nil))).toNat * 4) + 3) .nil) = true)) <|
  gd (0 ≤ (intD ((x60).getD (((IntKind.wrap .i64 ((x56 : Int) - (1 : Int)))).toNat * 1) .nil)) ∧ (intD ((x60).getD (((IntKind.wrap .i64 ((x56 : Int) - (1 : Int)))).toNat * 1) .nil)) < (x12 : Nat)) <|
  gd (((((intD ((x60).getD (((IntKind.wrap .i64 ((x56 : Int) - (1 : Int)))).toNat * 1) .nil))).toNat * 4) + 3) + 1 ≤ (x16).length) <|
  gd ((apOK 40 (x12 + 1)) ∧ (x12 * 4 = ((setD x16 ((((intD ((x60).getD (((IntKind.wrap .i64 ((x56 : Int) - (1 : Int)))).toNat * 1) .nil))).toNat * 4) + 3) [(.int .i64 (IntKind.wrap .i64 ((intD ((x16).getD ((((intD ((x60).getD (((IntKind.wrap .i64 ((x56 : Int) - (1 : Int)))).toNat * 1) .nil))).toNat * 4) + 3) .nil)) + (1 : Int))))])).length)) <|
  bif (x100 == (0 : Int)) then
    gd ((apOK 8 (x56 + 1)) ∧ (x56 * 1 = (x60).length)) <|
    F6_K3 lo1 x12 x14 (x56 + 1) ((setD x16 ((((intD ((x60).getD (((IntKind.wrap .i64 ((x56 : Int) - (1 : Int)))).toNat * 1) .nil))).toNat * 4) + 3) [(.int .i64 (IntKind.wrap .i64 ((intD ((x16).getD ((((intD ((x60).getD (((IntKind.wrap .i64 ((x56 : Int) - (1 : Int)))).toNat * 1) .nil))).toNat * 4) + 3) .nil)) + (1 : Int))))]) ++ ([(.str (bytesD ([(.int .u8 (IntKind.wrap .u8 (IntKind.wrap .i64 ((97 : Int) + x14))))] : List PD))), (.int .i64 x88), (.int .i64 x100), (.int .i64 (0 : Int))] : List PD)) (x60 ++ ([(.int .i64 (IntKind.wrap .i64 (((x12 + 1) : Int) - (1 : Int))))] : List PD))
  else
    F6_K3 lo1 x12 x14 x56 ((setD x16 ((((intD ((x60).getD (((IntKind.wrap .i64 ((x56 : Int) - (1 : Int)))).toNat * 1) .nil))).toNat * 4) + 3) [(.int .i64 (IntKind.wrap .i64 ((intD ((x16).getD ((((intD ((x60).getD (((IntKind.wrap .i64 ((x56 : Int) - (1 : Int)))).toNat * 1) .nil))).toNat * 4) + 3) .nil)) + (1 : Int))))]) ++ ([(.str (bytesD ([(.int .u8 (IntKind.wrap .u8 (IntKind.wrap .i64 ((97 : Int) + x14))))] : List PD))), (.int .i64 x88), (.int .i64 x100), (.int .i64 (0 : Int))] : List PD)) x60

def J6_6 (C : Ctx) (N : Nat) (hp : HP) (x56 : Nat) (x60 : List PD) (x12 : Nat) (x16 : List PD) (lo1 : Nat → Nat → Int → List PD → List PD → Option (PD)) (x14 : Int) (x88 : Int) (kq1 : Bool) (x2 : PD) (rr : PD) (s : ASt) : Prop :=
  ∃ (hpx : HP) (v97 v98 v99 : Nat) (x100 : Int), Gh C s ⟨envL [(0, (dk kq1 x2)), (3, (PV.own (N + 9) v97 0 x12)), (4, (PV.own (N + 10) v98 0 x56)), (5, (PV.d true (.int .i64 x14))), (7, (PV.ptr (N + 7) v99 0))], hpL N hpx [(9, (v97, some (.cells 61 ((x16).map (PV.d true))))), (10, (v98, some (.cells 3 ((x60).map (PV.d true))))), (7, (v99, some (.cells 61 [(PV.d true (.str (bytesD ([(.int .u8 (IntKind.wrap .u8 (IntKind.wrap .i64 ((97 : Int) + x14))))] : List PD)))), (PV.d true (.int .i64 x88)), (PV.d true (.int .i64 x100)), (PV.d true (.int .i64 (0 : Int)))])))]⟩ ∧ (∀ id, id < N → hpx id = hp id) ∧ F6_K6 x56 x60 x12 x16 lo1 x14 x88 x100 = some rr

def F6_K7 (x56 : Nat) (x60 : List PD) (x12 : Nat) (x16 : List PD) (lo1 : Nat → Nat → Int → List PD → List PD → Option (PD)) (x14 : Int) (x88 : Int) (x93 : Int) (x125 : Bool) : Option (PD) :=
  bif x125 then
    F6_K6 x56 x60 x12 x16 lo1 x14 x88 (2 : Int)
  else
    F6_K6 x56 x60 x12 x16 lo1 x14 x88 (Int.tmod x93 (5 : Int))

def J6_7 (C : Ctx) (N : Nat) (hp : HP) (x56 : Nat) (x60 : List PD) (x12 : Nat) (x16 : List PD) (lo1 : Nat → Nat → Int → List PD → List PD → Option (PD)) (x14 : Int) (x88 : Int) (x93 : Int) (kq1 : Bool) (x2 : PD) (rr : PD) (s : ASt) : Prop :=
  ∃ (hpx : HP) (v126 v127 v128 : Nat) (x125 : Bool), Gh C s ⟨envL [(0, (dk kq1 x2)), (3, (PV.own (N + 9) v126 0 x12)), (4, (PV.own (N + 10) v127 0 x56)), (5, (PV.d true (.int .i64 x14))), (7, (PV.ptr (N + 7) v128 0)), (79, (PV.d true (.bool x125)))], hpL N hpx [(9, (v126, some (.cells 61 ((x16).map (PV.d true))))), (10, (v127, some (.cells 3 ((x60).map (PV.d true))))), (7, (v128, some (.cells 61 [(PV.d true (.str (bytesD ([(.int .u8 (IntKind.wrap .u8 (IntKind.wrap .i64 ((97 : Int) + x14))))] : List PD)))), (PV.d true (.int .i64 x88)), (PV.d true (.int .i64 (Int.tmod x93 (5 : Int)))), (PV.d true (.int .i64 (0 : Int)))])))]⟩ ∧ (∀ id, id < N → hpx id = hp id) ∧ F6_K7 x56 x60 x12 x16 lo1 x14 x88 x93 x125 = some rr

def F6_K5 (x56 : Nat) (lo4 : Nat → Int → List PD → Option (PD)) (x57 : Int) (x60 : List PD) (x14 : Int) (x2 : PD) (n : Nat) (x12 : Nat) (x16 : List PD) (lo1 : Nat → Nat → Int → List PD → List PD → Option (PD)) (x70 : Bool) : Option (PD) :=
  bif x70 then
    gd (0 ≤ (0 : Int) ∧ (0 : Int) ≤ (IntKind.wrap .i64 ((x56 : Int) - (1 : Int))) ∧ (IntKind.wrap .i64 ((x56 : Int) - (1 : Int))) ≤ (x56 : Nat)) <|
    lo4 ((IntKind.wrap .i64 ((x56 : Int) - (1 : Int)))).toNat (IntKind.wrap .i64 (x57 - (1 : Int))) ((x60).take (((IntKind.wrap .i64 ((x56 : Int) - (1 : Int)))).toNat * 1))
  else
    gd (areU8 ([(.int .u8 (IntKind.wrap .u8 (IntKind.wrap .i64 ((97 : Int) + x14))))] : List PD) = true) <|
    gd (idxOK 1 x2 x14) <|
    gd ((1 ≤ (((cellsD x2).drop ((x14).toNat * 1))).length) ∧ (isI .i64 ((((cellsD x2).drop ((x14).toNat * 1))).getD 0 .nil) = true)) <|
    gd ((8 : Int) ≠ 0) <|
    bd (F14 n (IntKind.wrap .i64 (Int.tdiv (intD ((((cellsD x2).drop ((x14).toNat * 1))).getD 0 .nil)) (8 : Int))) (3 : Int)) fun x88 =>
    gd (idxOK 1 x2 x14) <|
    gd ((1 ≤ (((cellsD x2).drop ((x14).toNat * 1))).length) ∧ (isI .i64 ((((cellsD x2).drop ((x14).toNat * 1))).getD 0 .nil) = true)) <|
    bd (F14 n (intD ((((cellsD x2).drop ((x14).toNat * 1))).getD 0 .nil)) (8 : Int)) fun x93 =>
    gd ((5 : Int) ≠ 0) <|
    bif (decide ((4 : Int) < (x56 : Int))) then
      F6_K7 x56 x60 x12 x16 lo1 x14 x88 x93 ((Int.tmod x93 (5 : Int)) == (0 : Int))
    else
      F6_K7 x56 x60 x12 x16 lo1 x14 x88 x93 false

def J6_5 (C : Ctx) (N : Nat) (hp : HP) (x56 : Nat) (lo4 : Nat → Int → List PD → Option (PD)) (x57 : Int) (x60 : List PD) (x14 : Int) (x2 : PD) (n : Nat) (x12 : Nat) (x16 : List PD) (lo1 : Nat → Nat → Int → List PD → List PD → Option (PD)) (kq1 : Bool) (rr : PD) (s : ASt) : Prop :=
  ∃ (hpx : HP) (v71 v72 : Nat) (x70 : Bool), Gh C s ⟨envL [(0, (dk kq1 x2)), (3, (PV.own (N + 9) v71 0 x12)), (4, (PV.own (N + 10) v72 0 x56)), (5, (PV.d true (.int .i64 x14))), (6, (PV.d true (.int .i64 x57))), (46, (PV.d true (.bool x70)))], hpL N hpx [(9, (v71, some (.cells 61 ((x16).map (PV.d true))))), (10, (v72, some (.cells 3 ((x60).map (PV.d true)))))]⟩ ∧ (∀ id, id < N → hpx id = hp id) ∧ F6_K5 x56 lo4 x57 x60 x14 x2 n x12 x16 lo1 x70 = some rr

def F6_L4 (x12 : Nat) (x16 : List PD) (x14 : Int) (x2 : PD) (n : Nat) (lo1 : Nat → Nat → Int → List PD → List PD → Option (PD)) : Nat → Nat → Int → List PD → Option (PD)
  | 0, _, _, _ => none
  | m4 + 1, x56, x57, x60 =>
    bif (decide ((0 : Int) < x57)) then
      bif (decide ((1 : Int) < (x56 : Int))) then
        gd (0 ≤ (IntKind.wrap .i64 ((x56 : Int) - (1 : Int))) ∧ (IntKind.wrap .i64 ((x56 : Int) - (1 : Int))) < (x56 : Nat)) <|
        gd (((((IntKind.wrap .i64 ((x56 : Int) - (1 : Int)))).toNat * 1) < (x60).length) ∧ (isI .i64 ((x60).getD (((IntKind.wrap .i64 ((x56 : Int) - (1 : Int)))).toNat * 1) .nil) = true)) <|
        gd (0 ≤ (intD ((x60).getD (((IntKind.wrap .i64 ((x56 : Int) - (1 : Int)))).toNat * 1) .nil)) ∧ (intD ((x60).getD (((IntKind.wrap .i64 ((x56 : Int) - (1 : Int)))).toNat * 1) .nil)) < (x12 : Nat)) <|
        gd ((((((intD ((x60).getD (((IntKind.wrap .i64 ((x56 : Int) - (1 : Int)))).toNat * 1) .nil))).toNat * 4) + 3) < (x16).length) ∧ (isI .i64 ((x16).getD ((((intD ((x60).getD (((IntKind.wrap .i64 ((x56 : Int) - (1 : Int)))).toNat * 1) .nil))).toNat * 4) + 3) .nil) = true)) <|
        F6_K5 x56 (F6_L4 x12 x16 x14 x2 n lo1 m4) x57 x60 x14 x2 n x12 x16 lo1 (decide ((0 : Int) < (intD ((x16).getD ((((intD ((x60).getD (((IntKind.wrap .i64 ((x56 : Int) - (1 : Int)))).toNat * 1) .nil))).toNat * 4) + 3) .nil))))
      else
        F6_K5 x56 (F6_L4 x12 x16 x14 x2 n lo1 m4) x57 x60 x14 x2 n x12 x16 lo1 false
    else
      F6_K5 x56 (F6_L4 x12 x16 x14 x2 n lo1 m4) x57 x60 x14 x2 n x12 x16 lo1 false

def J6_4 (C : Ctx) (N : Nat) (hp : HP) (x12 : Nat) (x16 : List PD) (x14 : Int) (x2 : PD) (n : Nat) (lo1 : Nat → Nat → Int → List PD → List PD → Option (PD)) (kq1 : Bool) (rr : PD) (mm : Nat) (s : ASt) : Prop :=
  ∃ (hpx : HP) (v58 v59 : Nat) (x56 : Nat) (x57 : Int) (x60 : List PD), Gh C s ⟨envL [(0, (dk kq1 x2)), (3, (PV.own (N + 9) v58 0 x12)), (4, (PV.own (N + 10) v59 0 x56)), (5, (PV.d true (.int .i64 x14))), (6, (PV.d true (.int .i64 x57)))], hpL N hpx [(9, (v58, some (.cells 61 ((x16).map (PV.d true))))), (10, (v59, some (.cells 3 ((x60).map (PV.d true)))))]⟩ ∧ (∀ id, id < N → hpx id = hp id) ∧ F6_L4 x12 x16 x14 x2 n lo1 mm x56 x57 x60 = some rr

def F6_K8 (x143 : Nat) (x145 : List PD) : Option (PD) :=
  gd (x143 * 4 = (x145).length) <|
  some (.lst x143 x145)

def J6_8 (C : Ctx) (N : Nat) (hp : HP) (rr : PD) (s : ASt) : Prop :=
  ∃ (hpx : HP) (v144 : Nat) (x143 : Nat) (x145 : List PD), Gh C s ⟨envL [(3, (PV.own (N + 9) v144 0 x143))], hpL N hpx [(9, (v144, some (.cells 61 ((x145).map (PV.d true)))))]⟩ ∧ (∀ id, id < N → hpx id = hp id) ∧ F6_K8 x143 x145 = some rr

def F6_K2 (x2 : PD) (x14 : Int) (n : Nat) (x12 : Nat) (x16 : List PD) (lo1 : Nat → Nat → Int → List PD → List PD → Option (PD)) (x13 : Nat) (x18 : List PD) (x30 : Bool) : Option (PD) :=
  bif x30 then
    gd (idxOK 1 x2 x14) <|
    gd ((1 ≤ (((cellsD x2).drop ((x14).toNat * 1))).length) ∧ (isI .i64 ((((cellsD x2).drop ((x14).toNat * 1))).getD 0 .nil) = true)) <|
    gd ((64 : Int) ≠ 0) <|
    bd (F14 n (IntKind.wrap .i64 (Int.tdiv (intD ((((cellsD x2).drop ((x14).toNat * 1))).getD 0 .nil)) (64 : Int))) (3 : Int)) fun x52 =>
    F6_L4 x12 x16 x14 x2 n lo1 n x13 x52 x18
  else
    gd (0 ≤ (IntKind.wrap .i64 ((x13 : Int) - (1 : Int))) ∧ (IntKind.wrap .i64 ((x13 : Int) - (1 : Int))) < (x13 : Nat)) <|
    gd (((((IntKind.wrap .i64 ((x13 : Int) - (1 : Int)))).toNat * 1) < (x18).length) ∧ (isI .i64 ((x18).getD (((IntKind.wrap .i64 ((x13 : Int) - (1 : Int)))).toNat * 1) .nil) = true)) <|
    gd (0 ≤ (intD ((x18).getD (((IntKind.wrap .i64 ((x13 : Int) - (1 : Int)))).toNat * 1) .nil)) ∧ (intD ((x18).getD (((IntKind.wrap .i64 ((x13 : Int) - (1 : Int)))).toNat * 1) .nil)) < (x12 : Nat)) <|
    gd ((((((intD ((x18).getD (((IntKind.wrap .i64 ((x13 : Int) - (1 : Int)))).toNat * 1) .nil))).toNat * 4) + 3) < (x16).length) ∧ (isI .i64 ((x16).getD ((((intD ((x18).getD (((IntKind.wrap .i64 ((x13 : Int) - (1 : Int)))).toNat * 1) .nil))).toNat * 4) + 3) .nil) = true)) <|
    bif ((intD ((x16).getD ((((intD ((x18).getD (((IntKind.wrap .i64 ((x13 : Int) - (1 : Int)))).toNat * 1) .nil))).toNat * 4) + 3) .nil)) == (0 : Int)) then
      gd (0 ≤ (IntKind.wrap .i64 ((x13 : Int) - (1 : Int))) ∧ (IntKind.wrap .i64 ((x13 : Int) - (1 : Int))) < (x13 : Nat)) <|
      gd (((((IntKind.wrap .i64 ((x13 : Int) - (1 : Int)))).toNat * 1) < (x18).length) ∧ (isI .i64 ((x18).getD (((IntKind.wrap .i64 ((x13 : Int) - (1 : Int)))).toNat * 1) .nil) = true)) <|
      gd (0 ≤ (intD ((x18).getD (((IntKind.wrap .i64 ((x13 : Int) - (1 : Int)))).toNat * 1) .nil)) ∧ (intD ((x18).getD (((IntKind.wrap .i64 ((x13 : Int) - (1 : Int)))).toNat * 1) .nil)) < (x12 : Nat)) <|
      gd ((((((intD ((x18).getD (((IntKind.wrap .i64 ((x13 : Int) - (1 : Int)))).toNat * 1) .nil))).toNat * 4) + 3) < (x16).length) ∧ (isI .i64 ((x16).getD ((((intD ((x18).getD (((IntKind.wrap .i64 ((x13 : Int) - (1 : Int)))).toNat * 1) .nil))).toNat * 4) + 3) .nil) = true)) <|
      gd (0 ≤ (intD ((x18).getD (((IntKind.wrap .i64 ((x13 : Int) - (1 : Int)))).toNat * 1) .nil)) ∧ (intD ((x18).getD (((IntKind.wrap .i64 ((x13 : Int) - (1 : Int)))).toNat * 1) .nil)) < (x12 : Nat)) <|
      gd (((((intD ((x18).getD (((IntKind.wrap .i64 ((x13 : Int) - (1 : Int)))).toNat * 1) .nil))).toNat * 4) + 3) + 1 ≤ (x16).length) <|
      gd ((apOK 40 (x12 + 1)) ∧ (x12 * 4 = ((setD x16 ((((intD ((x18).getD (((IntKind.wrap .i64 ((x13 : Int) - (1 : Int)))).toNat * 1) .nil))).toNat * 4) + 3) [(.int .i64 (IntKind.wrap .i64 ((intD ((x16).getD ((((intD ((x18).getD (((IntKind.wrap .i64 ((x13 : Int) - (1 : Int)))).toNat * 1) .nil))).toNat * 4) + 3) .nil)) + (1 : Int))))])).length)) <|
      F6_K8 (x12 + 1) ((setD x16 ((((intD ((x18).getD (((IntKind.wrap .i64 ((x13 : Int) - (1 : Int)))).toNat * 1) .nil))).toNat * 4) + 3) [(.int .i64 (IntKind.wrap .i64 ((intD ((x16).getD ((((intD ((x18).getD (((IntKind.wrap .i64 ((x13 : Int) - (1 : Int)))).toNat * 1) .nil))).toNat * 4) + 3) .nil)) + (1 : Int))))]) ++ ([(.str ([122] : List UInt8)), (.int .i64 (0 : Int)), (.int .i64 (4 : Int)), (.int .i64 (0 : Int))] : List PD))
    else
      F6_K8 x12 x16

def J6_2 (C : Ctx) (N : Nat) (hp : HP) (x2 : PD) (x14 : Int) (n : Nat) (x12 : Nat) (x16 : List PD) (lo1 : Nat → Nat → Int → List PD → List PD → Option (PD)) (x13 : Nat) (x18 : List PD) (kq1 : Bool) (rr : PD) (s : ASt) : Prop :=
  ∃ (hpx : HP) (v31 v32 : Nat) (x30 : Bool), Gh C s ⟨envL [(0, (dk kq1 x2)), (3, (PV.own (N + 9) v31 0 x12)), (4, (PV.own (N + 10) v32 0 x13)), (5, (PV.d true (.int .i64 x14))), (18, (PV.d true (.bool x30)))], hpL N hpx [(9, (v31, some (.cells 61 ((x16).map (PV.d true))))), (10, (v32, some (.cells 3 ((x18).map (PV.d true)))))]⟩ ∧ (∀ id, id < N → hpx id = hp id) ∧ F6_K2 x2 x14 n x12 x16 lo1 x13 x18 x30 = some rr

def F6_L1 (x2 : PD) (n : Nat) : Nat → Nat → Nat → Int → List PD → List PD → Option (PD)
  | 0, _, _, _, _, _ => none
  | m1 + 1, x12, x13, x14, x16, x18 =>
    gd (isSlD x2 = true) <|
    bif (decide (x14 < (lenN x2 : Int))) then
      F6_K2 x2 x14 n x12 x16 (F6_L1 x2 n m1) x13 x18 (decide (x14 < (12 : Int)))
    else
      F6_K2 x2 x14 n x12 x16 (F6_L1 x2 n m1) x13 x18 false

def J6_1 (C : Ctx) (N : Nat) (hp : HP) (x2 : PD) (n : Nat) (kq1 : Bool) (rr : PD) (mm : Nat) (s : ASt) : Prop :=
  ∃ (hpx : HP) (v15 v17 : Nat) (x12 : Nat) (x13 : Nat) (x14 : Int) (x16 : List PD) (x18 : List PD), Gh C s ⟨envL [(0, (dk kq1 x2)), (3, (PV.own (N + 9) v15 0 x12)), (4, (PV.own (N + 10) v17 0 x13)), (5, (PV.d true (.int .i64 x14)))], hpL N hpx [(9, (v15, some (.cells 61 ((x16).map (PV.d true))))), (10, (v17, some (.cells 3 ((x18).map (PV.d true)))))]⟩ ∧ (∀ id, id < N → hpx id = hp id) ∧ F6_L1 x2 n mm x12 x13 x14 x16 x18 = some rr

def F6 (n : Nat) (kq1 : Bool) (x2 : PD) : Option (PD) :=
  F6_L1 x2 n n 1 1 (0 : Int) ([(.str ([109] : List UInt8)), (.int .i64 (0 : Int)), (.int .i64 (0 : Int)), (.int .i64 (0 : Int))] : List PD) ([(.int .i64 (0 : Int))] : List PD)

set_option maxHeartbeats 4000000 in
theorem f6_calls {n : Nat} {kq1 : Bool} {x2 : PD} {r : PD} (H : F6 n kq1 x2 = some r) (N : Nat) (hp : HP) : ACalls Try.prog 6 N [(dk kq1 x2)] hp fun r' hp' => r' = (PV.d true r) ∧ hp' = hp := by
  unfold F6 at H
  refine acalls_body Try.func6 rfl rfl Try.ntmps6 (by simp) fun X hX => ?_
  refine awp_start (l := [(0, (dk kq1 x2))]) (N := N) ⟨rfl, trivial⟩ ?_
  have hlow0 : ∀ id, id < N → hp id = hp id := fun _ _ => rfl
  refine awp_regionL fun y3 hy3 => ?_
  refine goL_s (st_as (v := (PV.d true .nil)) rfl) rfl ?_
  subst hy3
  refine awp_regionL fun y4 hy4 => ?_
  refine goL_s (st_buildR (parts := [(0, (PV.d true (.str ([109] : List UInt8))))]) (cells := [(PV.d true (.str ([109] : List UInt8))), (PV.d true (.int .i64 (0 : Int))), (PV.d true (.int .i64 (0 : Int))), (PV.d true (.int .i64 (0 : Int)))]) ze_61 sr_61 rfl (FillR.cons (cells' := [(PV.d true (.str ([109] : List UInt8))), (PV.d true (.int .i64 (0 : Int))), (PV.d true (.int .i64 (0 : Int))), (PV.d true (.int .i64 (0 : Int)))]) rfl rfl rfl (Nat.le_of_ble_eq_true rfl) ⟨rfl, trivial⟩ rfl FillR.nil)) rfl ?_
  refine goL_n (d' := 9) (st_bs1 (x := (PV.agg [(PV.d true (.str ([109] : List UInt8))), (PV.d true (.int .i64 (0 : Int))), (PV.d true (.int .i64 (0 : Int))), (PV.d true (.int .i64 (0 : Int)))])) (cs := [(PV.d true (.str ([109] : List UInt8))), (PV.d true (.int .i64 (0 : Int))), (PV.d true (.int .i64 (0 : Int))), (PV.d true (.int .i64 (0 : Int)))]) el_26 ze_61 sz_61 (by decide) rfl (by decide) rfl rfl rfl ⟨rfl, rfl, rfl, rfl, trivial⟩) rfl fun v5 => ?_
  refine goL_s (st_as (v := (PV.own (N + 9) v5 0 1)) rfl) rfl ?_
  subst hy4
  refine awp_regionL fun y6 hy6 => ?_
  refine goL_n (d' := 10) (st_bs1 (x := (PV.d true (.int .i64 (0 : Int)))) (cs := [(PV.d true (.int .i64 (0 : Int)))]) el_22 ze_3 sz_3 (by decide) rfl (by decide) rfl rfl rfl ⟨rfl, trivial⟩) rfl fun v7 => ?_
  refine goL_s (st_as (v := (PV.own (N + 10) v7 0 1)) rfl) rfl ?_
  subst hy6
  refine awp_hide fun y8 hy8 => ?_
  refine awp_regionL fun y9 hy9 => ?_
  refine goL_s (st_as (v := (PV.d true (.int .i64 (0 : Int)))) rfl) rfl ?_
  subst hy9
  refine awp_block ?_
  refine awp_loop (J6_1 (mkC 136 N Try.prog hp X) N hp x2 n kq1 r) n ?_ ?_
  · unfold J6_1
    exact ⟨_, v5, v7, 1, 1, (0 : Int), ([(.str ([109] : List UInt8)), (.int .i64 (0 : Int)), (.int .i64 (0 : Int)), (.int .i64 (0 : Int))] : List PD), ([(.int .i64 (0 : Int))] : List PD), Gh.join ⟨rfl, rfl, rfl, rfl, trivial⟩ ⟨(hpL_miss rfl hpL_hit), hpL_hit, trivial⟩, fun id hid => (hpL_low hid).trans (hlow0 id hid), H⟩
  · intro m1 s hJ
    unfold J6_1 at hJ
    obtain ⟨hpx26, v15, v17, x12, x13, x14, x16, x18, hG28, hlow27, H⟩ := hJ
    cases m1 with
    | zero => cases H
    | succ m1 =>
      rw [F6_L1] at H
      refine awp_gh hG28 ?_
      clear hG28
      refine awp_hide fun y29 hy29 => ?_
      refine awp_cut (J6_2 (mkC 136 N Try.prog hp X) N hp x2 x14 n x12 x16 (F6_L1 x2 n m1) x13 x18 kq1 r) ?_ ?_
      · refine awp_regionL1 ?_
        refine goL_s (st_mv (v := (PV.d true (.int .i64 x14))) rfl) rfl ?_
        refine goL_s (st_mv (v := (dk kq1 x2)) rfl) rfl ?_
        obtain ⟨g173, H⟩ := gd_out H
        refine goL_s (st_len_dk (y := x2) sl_22 rfl g173) rfl ?_
        refine goL_s (st_bin rfl rfl rfl rfl trivial) rfl ?_
        refine goL_s (st_mv (v := (PV.d true (.bool (decide (x14 < (lenN x2 : Int)))))) rfl) rfl ?_
        refine goL_fork (decide (x14 < (lenN x2 : Int))) (fun hb174 => ?_) (fun hb174 => ?_)
        · replace H := cond_t H hb174
          refine goL_gT rfl rfl hb174 ?_
          refine goL_s (st_mv (v := (PV.d true (.int .i64 x14))) rfl) rfl ?_
          refine goL_gT rfl rfl hb174 ?_
          refine goL_s (st_bin rfl rfl rfl rfl trivial) rfl ?_
          refine goL_s (st_pickT (v := (PV.d true (.bool (decide (x14 < (12 : Int)))))) rfl hb174 rfl) rfl ?_
          refine thenA_n ?_
          unfold J6_2
          exact ⟨_, v15, v17, (decide (x14 < (12 : Int))), Gh.join ⟨rfl, rfl, rfl, rfl, rfl, trivial⟩ ⟨hpL_hit, (hpL_miss rfl hpL_hit), trivial⟩, fun id hid => (hpL_low hid).trans (hlow27 id hid), H⟩
        · replace H := cond_f H hb174
          refine goL_gF rfl rfl hb174 rfl ?_
          refine goL_gF rfl rfl hb174 rfl ?_
          refine goL_s (st_pickF (v := (PV.d true (.bool false))) rfl hb174 rfl) rfl ?_
          refine thenA_n ?_
          unfold J6_2
          exact ⟨_, v15, v17, false, Gh.join ⟨rfl, rfl, rfl, rfl, rfl, trivial⟩ ⟨hpL_hit, (hpL_miss rfl hpL_hit), trivial⟩, fun id hid => (hpL_low hid).trans (hlow27 id hid), H⟩
      · intro s hJ
        unfold J6_2 at hJ
        obtain ⟨hpx33, v31, v32, x30, hG35, hlow34, H⟩ := hJ
        unfold F6_K2 at H
        refine awp_gh hG35 ?_
        clear hG35
        refine awp_ifL (b := x30) rfl (fun y37 hy37 hb36 => ?_) (fun y37 hy37 hb36 => ?_)
        · replace H := cond_t H hb36
          subst hy37
          refine awp_skip ?_
          refine thenA_n ?_
          subst hy29
          refine awp_cut (J6_3 (mkC 136 N Try.prog hp X) N hp (F6_L1 x2 n m1) x12 x14 kq1 x2 r) ?_ ?_
          · refine awp_block ?_
            refine awp_hide fun y46 hy46 => ?_
            refine awp_regionL fun y47 hy47 => ?_
            refine goL_s (st_mv (v := (dk kq1 x2)) rfl) rfl ?_
            refine goL_s (st_mv (v := (PV.d true (.int .i64 x14))) rfl) rfl ?_
            obtain ⟨g48, H⟩ := gd_out H
            refine goL_s (st_ia_dk el_22 sz_3 (by decide) (y := x2) rfl rfl g48) rfl ?_
            obtain ⟨⟨g49, g50⟩, H⟩ := gd_out H
            refine goL_s (st_ld_lp ty_3 rfl g49 (cI g50)) rfl ?_
            obtain ⟨g51, H⟩ := gd_out H
            refine goL_s (st_bin rfl rfl rfl rfl g51) rfl ?_
            obtain ⟨x52, c53, H⟩ := bd_out H
            refine goL_cp (args' := [(PV.d true (.int .i64 (IntKind.wrap .i64 (Int.tdiv (intD ((((cellsD x2).drop ((x14).toNat * 1))).getD 0 .nil)) (64 : Int))))), (PV.d true (.int .i64 (3 : Int)))]) (r := (PV.d true (.int .i64 x52))) rfl rfl ⟨Wk.refl, ⟨Wk.refl, trivial⟩⟩ enter_14 rfl (f14_calls c53 (N + 136) _) ?_
            refine goL_s (st_as (v := (PV.d true (.int .i64 x52))) rfl) rfl ?_
            subst hy47
            refine awp_block ?_
            refine awp_loop (J6_4 (mkC 136 N Try.prog hp X) N hp x12 x16 x14 x2 n (F6_L1 x2 n m1) kq1 r) n ?_ ?_
            · unfold J6_4
              exact ⟨_, v31, v32, x13, x52, x18, Gh.join ⟨rfl, rfl, rfl, rfl, rfl, trivial⟩ ⟨hpL_hit, (hpL_miss rfl hpL_hit), trivial⟩, fun id hid => (hpL_low hid).trans (hlow34 id hid), H⟩
            · intro m4 s hJ
              unfold J6_4 at hJ
              obtain ⟨hpx66, v58, v59, x56, x57, x60, hG68, hlow67, H⟩ := hJ
              cases m4 with
              | zero => cases H
              | succ m4 =>
                rw [F6_L4] at H
                refine awp_gh hG68 ?_
                clear hG68
                refine awp_hide fun y69 hy69 => ?_
                refine awp_cut (J6_5 (mkC 136 N Try.prog hp X) N hp x56 (F6_L4 x12 x16 x14 x2 n (F6_L1 x2 n m1) m4) x57 x60 x14 x2 n x12 x16 (F6_L1 x2 n m1) kq1 r) ?_ ?_
                · refine awp_regionL1 ?_
                  refine goL_s (st_mv (v := (PV.d true (.int .i64 x57))) rfl) rfl ?_
                  refine goL_s (st_bin rfl rfl rfl rfl trivial) rfl ?_
                  refine goL_s (st_mv (v := (PV.d true (.bool (decide ((0 : Int) < x57))))) rfl) rfl ?_
                  refine goL_fork (decide ((0 : Int) < x57)) (fun hb135 => ?_) (fun hb135 => ?_)
                  · replace H := cond_t H hb135
                    refine goL_gT rfl rfl hb135 ?_
                    refine goL_s (st_mv (v := (PV.own (N + 10) v59 0 x56)) rfl) rfl ?_
                    refine goL_gT rfl rfl hb135 ?_
                    refine goL_s (st_len_o sl_22 rfl (hpL_miss rfl hpL_hit)) rfl ?_
                    refine goL_gT rfl rfl hb135 ?_
                    refine goL_s (st_bin rfl rfl rfl rfl trivial) rfl ?_
                    refine goL_s (st_pickT (v := (PV.d true (.bool (decide ((1 : Int) < (x56 : Int)))))) rfl hb135 rfl) rfl ?_
                    refine goL_s (st_mv (v := (PV.d true (.bool (decide ((1 : Int) < (x56 : Int)))))) rfl) rfl ?_
                    refine goL_fork (decide ((1 : Int) < (x56 : Int))) (fun hb136 => ?_) (fun hb136 => ?_)
                    · replace H := cond_t H hb136
                      refine goL_gT rfl rfl hb136 ?_
                      refine goL_s (st_mv (v := (PV.own (N + 9) v58 0 x12)) rfl) rfl ?_
                      refine goL_gT rfl rfl hb136 ?_
                      refine goL_s (st_mv (v := (PV.own (N + 10) v59 0 x56)) rfl) rfl ?_
                      refine goL_gT rfl rfl hb136 ?_
                      refine goL_s (st_mv (v := (PV.own (N + 10) v59 0 x56)) rfl) rfl ?_
                      refine goL_gT rfl rfl hb136 ?_
                      refine goL_s (st_len_o sl_22 rfl (hpL_miss rfl hpL_hit)) rfl ?_
                      refine goL_gT rfl rfl hb136 ?_
                      refine goL_s (st_bin rfl rfl rfl rfl trivial) rfl ?_
                      obtain ⟨g137, H⟩ := gd_out H
                      refine goL_gT rfl rfl hb136 ?_
                      refine goL_s (st_ia_o el_22 sz_3 (by decide) rfl (hpL_miss rfl hpL_hit) rfl g137) rfl ?_
                      obtain ⟨⟨g138, g139⟩, H⟩ := gd_out H
                      refine goL_gT rfl rfl hb136 ?_
                      refine goL_s (st_ld_p (row := (x60).map (PV.d true)) ty_3 rfl (hpL_miss rfl hpL_hit) (row_at g138 (cI' g139))) rfl ?_
                      obtain ⟨g140, H⟩ := gd_out H
                      refine goL_gT rfl rfl hb136 ?_
                      refine goL_s (st_ia_o el_26 sz_61 (by decide) rfl hpL_hit rfl g140) rfl ?_
                      refine goL_gT rfl rfl hb136 ?_
                      refine goL_s (st_fa_p (o' := ((((intD ((x60).getD (((IntKind.wrap .i64 ((x56 : Int) - (1 : Int)))).toNat * 1) .nil))).toNat * 4) + 3)) fi_61_3 (by decide) rfl hpL_hit rfl) rfl ?_
                      obtain ⟨⟨g141, g142⟩, H⟩ := gd_out H
                      refine goL_gT rfl rfl hb136 ?_
                      refine goL_s (st_ld_p (row := (x16).map (PV.d true)) ty_3 rfl hpL_hit (row_at g141 (cI' g142))) rfl ?_
                      refine goL_gT rfl rfl hb136 ?_
                      refine goL_s (st_bin rfl rfl rfl rfl trivial) rfl ?_
                      refine goL_s (st_pickT (v := (PV.d true (.bool (decide ((0 : Int) < (intD ((x16).getD ((((intD ((x60).getD (((IntKind.wrap .i64 ((x56 : Int) - (1 : Int)))).toNat * 1) .nil))).toNat * 4) + 3) .nil))))))) rfl hb136 rfl) rfl ?_
                      refine thenA_n ?_
                      unfold J6_5
                      exact ⟨_, v58, v59, (decide ((0 : Int) < (intD ((x16).getD ((((intD ((x60).getD (((IntKind.wrap .i64 ((x56 : Int) - (1 : Int)))).toNat * 1) .nil))).toNat * 4) + 3) .nil)))), Gh.join ⟨rfl, rfl, rfl, rfl, rfl, rfl, trivial⟩ ⟨hpL_hit, (hpL_miss rfl hpL_hit), trivial⟩, fun id hid => (hpL_low hid).trans (hlow67 id hid), H⟩
                    · replace H := cond_f H hb136
                      refine goL_gF rfl rfl hb136 rfl ?_
                      refine goL_gF rfl rfl hb136 rfl ?_
                      refine goL_gF rfl rfl hb136 rfl ?_
                      refine goL_gF rfl rfl hb136 rfl ?_
                      refine goL_gF rfl rfl hb136 rfl ?_
                      refine goL_gF rfl rfl hb136 rfl ?_
                      refine goL_gF rfl rfl hb136 rfl ?_
                      refine goL_gF rfl rfl hb136 rfl ?_
                      refine goL_gF rfl rfl hb136 rfl ?_
                      refine goL_gF rfl rfl hb136 rfl ?_
                      refine goL_gF rfl rfl hb136 rfl ?_
                      refine goL_s (st_pickF (v := (PV.d true (.bool false))) rfl hb136 rfl) rfl ?_
                      refine thenA_n ?_
                      unfold J6_5
                      exact ⟨_, v58, v59, false, Gh.join ⟨rfl, rfl, rfl, rfl, rfl, rfl, trivial⟩ ⟨hpL_hit, (hpL_miss rfl hpL_hit), trivial⟩, fun id hid => (hpL_low hid).trans (hlow67 id hid), H⟩
                  · replace H := cond_f H hb135
                    refine goL_gF rfl rfl hb135 rfl ?_
                    refine goL_gF rfl rfl hb135 rfl ?_
                    refine goL_gF rfl rfl hb135 rfl ?_
                    refine goL_s (st_pickF (v := (PV.d true (.bool false))) rfl hb135 rfl) rfl ?_
                    refine goL_s (st_mv (v := (PV.d true (.bool false))) rfl) rfl ?_
                    refine goL_gF rfl rfl rfl rfl ?_
                    refine goL_gF rfl rfl rfl rfl ?_
                    refine goL_gF rfl rfl rfl rfl ?_
                    refine goL_gF rfl rfl rfl rfl ?_
                    refine goL_gF rfl rfl rfl rfl ?_
                    refine goL_gF rfl rfl rfl rfl ?_
                    refine goL_gF rfl rfl rfl rfl ?_
                    refine goL_gF rfl rfl rfl rfl ?_
                    refine goL_gF rfl rfl rfl rfl ?_
                    refine goL_gF rfl rfl rfl rfl ?_
                    refine goL_gF rfl rfl rfl rfl ?_
                    refine goL_s (st_pickF (v := (PV.d true (.bool false))) rfl rfl rfl) rfl ?_
                    refine thenA_n ?_
                    unfold J6_5
                    exact ⟨_, v58, v59, false, Gh.join ⟨rfl, rfl, rfl, rfl, rfl, rfl, trivial⟩ ⟨hpL_hit, (hpL_miss rfl hpL_hit), trivial⟩, fun id hid => (hpL_low hid).trans (hlow67 id hid), H⟩
                · intro s hJ
                  unfold J6_5 at hJ
                  obtain ⟨hpx73, v71, v72, x70, hG75, hlow74, H⟩ := hJ
                  unfold F6_K5 at H
                  refine awp_gh hG75 ?_
                  clear hG75
                  refine awp_ifL (b := x70) rfl (fun y77 hy77 hb76 => ?_) (fun y77 hy77 hb76 => ?_)
                  · replace H := cond_t H hb76
                    subst hy77
                    refine awp_skip ?_
                    refine thenA_n ?_
                    subst hy69
                    refine awp_hide fun y78 hy78 => ?_
                    refine awp_block ?_
                    refine awp_regionL1 ?_
                    refine goL_s (st_mv (v := (PV.own (N + 10) v72 0 x56)) rfl) rfl ?_
                    refine goL_s (st_mv (v := (PV.own (N + 10) v72 0 x56)) rfl) rfl ?_
                    refine goL_s (st_len_o sl_22 rfl (hpL_miss rfl hpL_hit)) rfl ?_
                    refine goL_s (st_bin rfl rfl rfl rfl trivial) rfl ?_
                    obtain ⟨g79, H⟩ := gd_out H
                    refine goL_s ((st_sl_front el_22 sz_3 (by decide) rfl (hpL_miss rfl hpL_hit) rfl g79)) rfl ?_
                    refine goL_s (st_as (v := (PV.own (N + 10) v72 0 ((IntKind.wrap .i64 ((x56 : Int) - (1 : Int)))).toNat)) rfl) rfl ?_
                    refine blockA_n ?_
                    refine thenA_n ?_
                    subst hy78
                    refine awp_regionL1 ?_
                    refine goL_s (st_mv (v := (PV.d true (.int .i64 x57))) rfl) rfl ?_
                    refine goL_s (st_bin rfl rfl rfl rfl trivial) rfl ?_
                    refine goL_s (st_as (v := (PV.d true (.int .i64 (IntKind.wrap .i64 (x57 - (1 : Int)))))) rfl) rfl ?_
                    refine thenA_n ?_
                    refine ⟨m4, Nat.lt_succ_self _, ?_⟩
                    unfold J6_4
                    exact ⟨_, v71, v72, ((IntKind.wrap .i64 ((x56 : Int) - (1 : Int)))).toNat, (IntKind.wrap .i64 (x57 - (1 : Int))), ((x60).take (((IntKind.wrap .i64 ((x56 : Int) - (1 : Int)))).toNat * 1)), ((Gh.truncL (((IntKind.wrap .i64 ((x56 : Int) - (1 : Int)))).toNat * 1) (hpL_miss rfl hpL_hit)).trans (Gh.join ⟨rfl, rfl, rfl, rfl, rfl, trivial⟩ ⟨(hpL_miss rfl hpL_hit), hpL_hit, trivial⟩)), fun id hid => (hpL_low hid).trans (hlow74 id hid), H⟩
                  · replace H := cond_f H hb76
                    subst hy77
                    refine awp_exit ?_
                    refine thenA_e ?_
                    refine thenA_e ?_
                    refine blockA_h ?_
                    refine thenA_n ?_
                    subst hy46
                    refine awp_drawL 21 19 [(0, 3), (1, 3), (2, 3), (3, 4), (3, 17), (5, 10), (5, 15), (6, 10), (6, 15), (7, 10), (7, 15), (8, 10), (8, 15), (9, 10), (9, 15), (10, 15), (10, 16), (10, 17), (11, 15), (12, 15), (13, 15), (14, 15), (15, 16), (15, 17)] follows_any (by kernel_rfl) (by kernel_rfl) (by kernel_rfl) (by kernel_rfl) fun opsd81 Kd81 hod81 hKd81 => ?_
                    refine goA_r (rd := []) trivial (st_mv (v := (PV.d true (.int .i64 x14))) rfl) rfl rfl ?_
                    refine goA_r (rd := []) trivial (st_bin rfl rfl rfl rfl trivial) rfl rfl ?_
                    refine goA_r (rd := []) trivial (st_conv in_5 ha_3 rfl) rfl rfl ?_
                    refine goA_n (d' := 57) (rd := [(N + 57)]) trivial (st_bs1 (x := (PV.d true (.int .u8 (IntKind.wrap .u8 (IntKind.wrap .i64 ((97 : Int) + x14)))))) (cs := [(PV.d true (.int .u8 (IntKind.wrap .u8 (IntKind.wrap .i64 ((97 : Int) + x14)))))]) el_62 ze_5 sz_5 (by decide) rfl (by decide) rfl rfl rfl ⟨rfl, trivial⟩) rfl rfl fun v82 => ?_
                    obtain ⟨g83, H⟩ := gd_out H
                    refine goA_r (rd := [(N + 57)]) trivial (st_cbo (R := ([(.int .u8 (IntKind.wrap .u8 (IntKind.wrap .i64 ((97 : Int) + x14))))] : List PD)) (m := 1) u8_62 st_9 el_62 sz_5 (vx := (PV.own (N + 57) v82 0 1)) rfl rfl (src_own sz_5 hpL_hit rfl) g83) rfl rfl ?_
                    refine goA_r (rd := []) trivial (st_mv (v := (dk kq1 x2)) rfl) rfl rfl ?_
                    refine goA_r (rd := []) trivial (st_mv (v := (PV.d true (.int .i64 x14))) rfl) rfl rfl ?_
                    obtain ⟨g84, H⟩ := gd_out H
                    refine goA_r (rd := []) trivial (st_ia_dk el_22 sz_3 (by decide) (y := x2) rfl rfl g84) rfl (rd_ia_dk (y := x2) rfl rfl) ?_
                    obtain ⟨⟨g85, g86⟩, H⟩ := gd_out H
                    refine goA_r (rd := []) trivial (st_ld_lp ty_3 rfl g85 (cI g86)) rfl rfl ?_
                    obtain ⟨g87, H⟩ := gd_out H
                    refine goA_r (rd := []) trivial (st_bin rfl rfl rfl rfl g87) rfl rfl ?_
                    obtain ⟨x88, c89, H⟩ := bd_out H
                    refine goA_callp (args' := [(PV.d true (.int .i64 (IntKind.wrap .i64 (Int.tdiv (intD ((((cellsD x2).drop ((x14).toNat * 1))).getD 0 .nil)) (8 : Int))))), (PV.d true (.int .i64 (3 : Int)))]) (r := (PV.d true (.int .i64 x88))) rfl rfl ⟨Wk.refl, ⟨Wk.refl, trivial⟩⟩ enter_14 rfl (fun hq => (f14_calls c89 (N + 136) hq)) ?_
                    refine goA_r (rd := []) trivial (st_mv (v := (dk kq1 x2)) rfl) rfl rfl ?_
                    refine goA_r (rd := []) trivial (st_mv (v := (PV.d true (.int .i64 x14))) rfl) rfl rfl ?_
                    obtain ⟨g90, H⟩ := gd_out H
                    refine goA_r (rd := []) trivial (st_ia_dk el_22 sz_3 (by decide) (y := x2) rfl rfl g90) rfl (rd_ia_dk (y := x2) rfl rfl) ?_
                    obtain ⟨⟨g91, g92⟩, H⟩ := gd_out H
                    refine goA_r (rd := []) trivial (st_ld_lp ty_3 rfl g91 (cI g92)) rfl rfl ?_
                    obtain ⟨x93, c94, H⟩ := bd_out H
                    refine goA_callp (args' := [(PV.d true (.int .i64 (intD ((((cellsD x2).drop ((x14).toNat * 1))).getD 0 .nil)))), (PV.d true (.int .i64 (8 : Int)))]) (r := (PV.d true (.int .i64 x93))) rfl rfl ⟨Wk.refl, ⟨Wk.refl, trivial⟩⟩ enter_14 rfl (fun hq => (f14_calls c94 (N + 136) hq)) ?_
                    obtain ⟨g95, H⟩ := gd_out H
                    refine goA_r (rd := []) trivial (st_bin rfl rfl rfl rfl g95) rfl rfl ?_
                    refine goA_r (rd := []) trivial (st_buildR (parts := [(0, (PV.d true (.str (bytesD ([(.int .u8 (IntKind.wrap .u8 (IntKind.wrap .i64 ((97 : Int) + x14))))] : List PD))))), (1, (PV.d true (.int .i64 x88))), (2, (PV.d true (.int .i64 (Int.tmod x93 (5 : Int)))))]) (cells := [(PV.d true (.str (bytesD ([(.int .u8 (IntKind.wrap .u8 (IntKind.wrap .i64 ((97 : Int) + x14))))] : List PD)))), (PV.d true (.int .i64 x88)), (PV.d true (.int .i64 (Int.tmod x93 (5 : Int)))), (PV.d true (.int .i64 (0 : Int)))]) ze_61 sr_61 rfl (FillR.cons (cells' := [(PV.d true (.str (bytesD ([(.int .u8 (IntKind.wrap .u8 (IntKind.wrap .i64 ((97 : Int) + x14))))] : List PD)))), (PV.d true (.int .i64 (0 : Int))), (PV.d true (.int .i64 (0 : Int))), (PV.d true (.int .i64 (0 : Int)))]) rfl rfl rfl (Nat.le_of_ble_eq_true rfl) ⟨rfl, trivial⟩ rfl (FillR.cons (cells' := [(PV.d true (.str (bytesD ([(.int .u8 (IntKind.wrap .u8 (IntKind.wrap .i64 ((97 : Int) + x14))))] : List PD)))), (PV.d true (.int .i64 x88)), (PV.d true (.int .i64 (0 : Int))), (PV.d true (.int .i64 (0 : Int)))]) rfl rfl rfl (Nat.le_of_ble_eq_true rfl) ⟨rfl, trivial⟩ rfl (FillR.cons (cells' := [(PV.d true (.str (bytesD ([(.int .u8 (IntKind.wrap .u8 (IntKind.wrap .i64 ((97 : Int) + x14))))] : List PD)))), (PV.d true (.int .i64 x88)), (PV.d true (.int .i64 (Int.tmod x93 (5 : Int)))), (PV.d true (.int .i64 (0 : Int)))]) rfl rfl rfl (Nat.le_of_ble_eq_true rfl) ⟨rfl, trivial⟩ rfl FillR.nil)))) rfl rfl ?_
                    refine goA_n (d' := 7) (rd := [(N + 7)]) trivial (st_alloc ze_61) rfl rfl fun v96 => ?_
                    refine goA_nil ?_
                    rw [hKd81]
                    refine ⟨?_, goOps_goL ?_⟩
                    · simp [objsW, objsY]
                    refine goL_o0 (st_sto (x := (PV.agg [(PV.d true (.str (bytesD ([(.int .u8 (IntKind.wrap .u8 (IntKind.wrap .i64 ((97 : Int) + x14))))] : List PD)))), (PV.d true (.int .i64 x88)), (PV.d true (.int .i64 (Int.tmod x93 (5 : Int)))), (PV.d true (.int .i64 (0 : Int)))])) (cs := [(PV.d true (.str (bytesD ([(.int .u8 (IntKind.wrap .u8 (IntKind.wrap .i64 ((97 : Int) + x14))))] : List PD)))), (PV.d true (.int .i64 x88)), (PV.d true (.int .i64 (Int.tmod x93 (5 : Int)))), (PV.d true (.int .i64 (0 : Int)))]) (row' := [(PV.d true (.str (bytesD ([(.int .u8 (IntKind.wrap .u8 (IntKind.wrap .i64 ((97 : Int) + x14))))] : List PD)))), (PV.d true (.int .i64 x88)), (PV.d true (.int .i64 (Int.tmod x93 (5 : Int)))), (PV.d true (.int .i64 (0 : Int)))]) ty_61 rfl hpL_hit rfl rfl rfl (Nat.le_of_ble_eq_true rfl) ⟨rfl, rfl, rfl, rfl, trivial⟩ rfl) rfl ?_
                    refine awp_cut (J6_6 (mkC 136 N Try.prog hp X) N hp x56 x60 x12 x16 (F6_L1 x2 n m1) x14 x88 kq1 x2 r) ?_ ?_
                    · refine awp_cut (J6_7 (mkC 136 N Try.prog hp X) N hp x56 x60 x12 x16 (F6_L1 x2 n m1) x14 x88 x93 kq1 x2 r) ?_ ?_
                      · refine awp_regionL1 ?_
                        refine goL_s (st_mv (v := (PV.own (N + 10) v72 0 x56)) rfl) rfl ?_
                        refine goL_s (st_len_o sl_22 rfl (hpL_miss rfl (hpL_miss rfl (hpL_miss rfl (hpL_miss rfl hpL_hit))))) rfl ?_
                        refine goL_s (st_bin rfl rfl rfl rfl trivial) rfl ?_
                        refine goL_s (st_mv (v := (PV.d true (.bool (decide ((4 : Int) < (x56 : Int)))))) rfl) rfl ?_
                        refine goL_fork (decide ((4 : Int) < (x56 : Int))) (fun hb134 => ?_) (fun hb134 => ?_)
                        · replace H := cond_t H hb134
                          refine goL_gT rfl rfl hb134 ?_
                          refine goL_s (st_fa_p (o' := 2) fi_61_2 (by decide) rfl hpL_hit rfl) rfl ?_
                          refine goL_gT rfl rfl hb134 ?_
                          refine goL_s (st_ld_p (c := (PV.d true (.int .i64 (Int.tmod x93 (5 : Int))))) ty_3 rfl hpL_hit rfl) rfl ?_
                          refine goL_gT rfl rfl hb134 ?_
                          refine goL_s (st_bin rfl rfl rfl rfl trivial) rfl ?_
                          refine goL_s (st_pickT (v := (PV.d true (.bool ((Int.tmod x93 (5 : Int)) == (0 : Int))))) rfl hb134 rfl) rfl ?_
                          refine thenA_n ?_
                          unfold J6_7
                          exact ⟨_, v71, v72, v96, ((Int.tmod x93 (5 : Int)) == (0 : Int)), Gh.join ⟨rfl, rfl, rfl, rfl, rfl, rfl, trivial⟩ ⟨(hpL_miss rfl (hpL_miss rfl (hpL_miss rfl hpL_hit))), (hpL_miss rfl (hpL_miss rfl (hpL_miss rfl (hpL_miss rfl hpL_hit)))), hpL_hit, trivial⟩, fun id hid => (hpL_low hid).trans (hlow74 id hid), H⟩
                        · replace H := cond_f H hb134
                          refine goL_gF rfl rfl hb134 rfl ?_
                          refine goL_gF rfl rfl hb134 rfl ?_
                          refine goL_gF rfl rfl hb134 rfl ?_
                          refine goL_s (st_pickF (v := (PV.d true (.bool false))) rfl hb134 rfl) rfl ?_
                          refine thenA_n ?_
                          unfold J6_7
                          exact ⟨_, v71, v72, v96, false, Gh.join ⟨rfl, rfl, rfl, rfl, rfl, rfl, trivial⟩ ⟨(hpL_miss rfl (hpL_miss rfl (hpL_miss rfl hpL_hit))), (hpL_miss rfl (hpL_miss rfl (hpL_miss rfl (hpL_miss rfl hpL_hit)))), hpL_hit, trivial⟩, fun id hid => (hpL_low hid).trans (hlow74 id hid), H⟩
                      · intro s hJ
                        unfold J6_7 at hJ
                        obtain ⟨hpx129, v126, v127, v128, x125, hG131, hlow130, H⟩ := hJ
                        unfold F6_K7 at H
                        refine awp_gh hG131 ?_
                        clear hG131
                        refine awp_ifL (b := x125) rfl (fun y133 hy133 hb132 => ?_) (fun y133 hy133 hb132 => ?_)
                        · replace H := cond_t H hb132
                          subst hy133
                          refine awp_regionL1 ?_
                          refine goL_s (st_fa_p (o' := 2) fi_61_2 (by decide) rfl (hpL_miss rfl (hpL_miss rfl hpL_hit)) rfl) rfl ?_
                          refine goL_o0 (st_sto (x := (PV.d true (.int .i64 (2 : Int)))) (cs := [(PV.d true (.int .i64 (2 : Int)))]) (row' := [(PV.d true (.str (bytesD ([(.int .u8 (IntKind.wrap .u8 (IntKind.wrap .i64 ((97 : Int) + x14))))] : List PD)))), (PV.d true (.int .i64 x88)), (PV.d true (.int .i64 (2 : Int))), (PV.d true (.int .i64 (0 : Int)))]) ty_3 rfl (hpL_miss rfl (hpL_miss rfl hpL_hit)) rfl rfl rfl (Nat.le_of_ble_eq_true rfl) ⟨rfl, trivial⟩ rfl) rfl ?_
                          refine thenA_n ?_
                          unfold J6_6
                          exact ⟨_, v126, v127, v128, (2 : Int), Gh.join ⟨rfl, rfl, rfl, rfl, rfl, trivial⟩ ⟨(hpL_miss rfl hpL_hit), (hpL_miss rfl (hpL_miss rfl hpL_hit)), hpL_hit, trivial⟩, fun id hid => (hpL_low hid).trans (hlow130 id hid), H⟩
                        · replace H := cond_f H hb132
                          subst hy133
                          refine awp_skip ?_
                          refine thenA_n ?_
                          unfold J6_6
                          exact ⟨_, v126, v127, v128, (Int.tmod x93 (5 : Int)), Gh.join ⟨rfl, rfl, rfl, rfl, rfl, trivial⟩ ⟨hpL_hit, (hpL_miss rfl hpL_hit), (hpL_miss rfl (hpL_miss rfl hpL_hit)), trivial⟩, fun id hid => (hpL_low hid).trans (hlow130 id hid), H⟩
                    · intro s hJ
                      unfold J6_6 at hJ
                      obtain ⟨hpx101, v97, v98, v99, x100, hG103, hlow102, H⟩ := hJ
                      unfold F6_K6 at H
                      refine awp_gh hG103 ?_
                      clear hG103
                      refine awp_regionL fun y104 hy104 => ?_
                      refine goL_s (st_mv (v := (PV.own (N + 9) v97 0 x12)) rfl) rfl ?_
                      refine goL_s (st_mv (v := (PV.own (N + 10) v98 0 x56)) rfl) rfl ?_
                      refine goL_s (st_mv (v := (PV.own (N + 10) v98 0 x56)) rfl) rfl ?_
                      refine goL_s (st_len_o sl_22 rfl (hpL_miss rfl hpL_hit)) rfl ?_
                      refine goL_s (st_bin rfl rfl rfl rfl trivial) rfl ?_
                      obtain ⟨g105, H⟩ := gd_out H
                      refine goL_s (st_ia_o el_22 sz_3 (by decide) rfl (hpL_miss rfl hpL_hit) rfl g105) rfl ?_
                      obtain ⟨⟨g106, g107⟩, H⟩ := gd_out H
                      refine goL_s (st_ld_p (row := (x60).map (PV.d true)) ty_3 rfl (hpL_miss rfl hpL_hit) (row_at g106 (cI' g107))) rfl ?_
                      obtain ⟨g108, H⟩ := gd_out H
                      refine goL_s (st_ia_o el_26 sz_61 (by decide) rfl hpL_hit rfl g108) rfl ?_
                      refine goL_s (st_fa_p (o' := ((((intD ((x60).getD (((IntKind.wrap .i64 ((x56 : Int) - (1 : Int)))).toNat * 1) .nil))).toNat * 4) + 3)) fi_61_3 (by decide) rfl hpL_hit rfl) rfl ?_
                      obtain ⟨⟨g109, g110⟩, H⟩ := gd_out H
                      refine goL_s (st_ld_p (row := (x16).map (PV.d true)) ty_3 rfl hpL_hit (row_at g109 (cI' g110))) rfl ?_
                      refine goL_s (st_bin rfl rfl rfl rfl trivial) rfl ?_
                      obtain ⟨g111, H⟩ := gd_out H
                      refine goL_s (st_ia_o el_26 sz_61 (by decide) rfl hpL_hit rfl g111) rfl ?_
                      refine goL_s (st_fa_p (o' := ((((intD ((x60).getD (((IntKind.wrap .i64 ((x56 : Int) - (1 : Int)))).toNat * 1) .nil))).toNat * 4) + 3)) fi_61_3 (by decide) rfl hpL_hit rfl) rfl ?_
                      obtain ⟨g112, H⟩ := gd_out H
                      refine goL_o0 (st_sto (x := (PV.d true (.int .i64 (IntKind.wrap .i64 ((intD ((x16).getD ((((intD ((x60).getD (((IntKind.wrap .i64 ((x56 : Int) - (1 : Int)))).toNat * 1) .nil))).toNat * 4) + 3) .nil)) + (1 : Int)))))) (cs := ([(.int .i64 (IntKind.wrap .i64 ((intD ((x16).getD ((((intD ((x60).getD (((IntKind.wrap .i64 ((x56 : Int) - (1 : Int)))).toNat * 1) .nil))).toNat * 4) + 3) .nil)) + (1 : Int))))] : List PD).map (PV.d true)) (row := (x16).map (PV.d true)) ty_3 rfl hpL_hit rfl rfl rfl (by rw [List.length_map]; exact g112) ⟨rfl, trivial⟩ row_setD) rfl ?_
                      subst hy104
                      refine awp_regionL fun y113 hy113 => ?_
                      refine goL_s (st_mv (v := (PV.own (N + 9) v97 0 x12)) rfl) rfl ?_
                      refine goL_s (st_ldA_p (cs := [(PV.d true (.str (bytesD ([(.int .u8 (IntKind.wrap .u8 (IntKind.wrap .i64 ((97 : Int) + x14))))] : List PD)))), (PV.d true (.int .i64 x88)), (PV.d true (.int .i64 x100)), (PV.d true (.int .i64 (0 : Int)))]) ty_61 rfl (hpL_miss rfl (hpL_miss rfl (hpL_miss rfl hpL_hit))) (Nat.le_of_ble_eq_true rfl) rfl) rfl ?_
                      refine goL_n (d' := 96) (st_bs1 (x := (PV.agg [(PV.d true (.str (bytesD ([(.int .u8 (IntKind.wrap .u8 (IntKind.wrap .i64 ((97 : Int) + x14))))] : List PD)))), (PV.d true (.int .i64 x88)), (PV.d true (.int .i64 x100)), (PV.d true (.int .i64 (0 : Int)))])) (cs := [(PV.d true (.str (bytesD ([(.int .u8 (IntKind.wrap .u8 (IntKind.wrap .i64 ((97 : Int) + x14))))] : List PD)))), (PV.d true (.int .i64 x88)), (PV.d true (.int .i64 x100)), (PV.d true (.int .i64 (0 : Int)))]) el_26 ze_61 sz_61 (by decide) rfl (by decide) rfl rfl rfl ⟨rfl, rfl, rfl, rfl, trivial⟩) rfl fun v114 => ?_
                      obtain ⟨⟨g115, g116⟩, H⟩ := gd_out H
                      refine goL_n (d' := 9) (st_ap_o (row := ((setD x16 ((((intD ((x60).getD (((IntKind.wrap .i64 ((x56 : Int) - (1 : Int)))).toNat * 1) .nil))).toNat * 4) + 3) [(.int .i64 (IntKind.wrap .i64 ((intD ((x16).getD ((((intD ((x60).getD (((IntKind.wrap .i64 ((x56 : Int) - (1 : Int)))).toNat * 1) .nil))).toNat * 4) + 3) .nil)) + (1 : Int))))])).map (PV.d true)) (news := (([(.str (bytesD ([(.int .u8 (IntKind.wrap .u8 (IntKind.wrap .i64 ((97 : Int) + x14))))] : List PD))), (.int .i64 x88), (.int .i64 x100), (.int .i64 (0 : Int))] : List PD)).map (PV.d true)) (m := 1) (vy := (PV.own (N + 96) v114 0 1)) el_26 ze_61 sz_61 by_61 (by decide) rfl rfl (hpL_miss rfl hpL_hit) rfl (src_own sz_61 hpL_hit rfl) g115 (by rw [List.length_map]; exact g116) (app_D _ _)) rfl fun v117 => ?_
                      refine goL_s (st_as (v := (PV.own (N + 9) v117 0 (x12 + 1))) rfl) rfl ?_
                      subst hy113
                      refine awp_regionL fun y118 hy118 => ?_
                      refine goL_s (st_fa_p (o' := 2) fi_61_2 (by decide) rfl (hpL_miss rfl (hpL_miss rfl (hpL_miss rfl (hpL_miss rfl (hpL_miss rfl hpL_hit))))) rfl) rfl ?_
                      refine goL_s (st_ld_p (c := (PV.d true (.int .i64 x100))) ty_3 rfl (hpL_miss rfl (hpL_miss rfl (hpL_miss rfl (hpL_miss rfl (hpL_miss rfl hpL_hit))))) rfl) rfl ?_
                      refine goL_s (st_bin rfl rfl rfl rfl trivial) rfl ?_
                      subst hy118
                      refine awp_ifL (b := (x100 == (0 : Int))) rfl (fun y120 hy120 hb119 => ?_) (fun y120 hy120 hb119 => ?_)
                      · replace H := cond_t H hb119
                        subst hy120
                        refine awp_regionL1 ?_
                        refine goL_s (st_mv (v := (PV.own (N + 10) v98 0 x56)) rfl) rfl ?_
                        refine goL_s (st_mv (v := (PV.own (N + 9) v117 0 (x12 + 1))) rfl) rfl ?_
                        refine goL_s (st_len_o sl_26 rfl hpL_hit) rfl ?_
                        refine goL_s (st_bin rfl rfl rfl rfl trivial) rfl ?_
                        refine goL_n (d' := 105) (st_bs1 (x := (PV.d true (.int .i64 (IntKind.wrap .i64 (((x12 + 1) : Int) - (1 : Int)))))) (cs := [(PV.d true (.int .i64 (IntKind.wrap .i64 (((x12 + 1) : Int) - (1 : Int)))))]) el_22 ze_3 sz_3 (by decide) rfl (by decide) rfl rfl rfl ⟨rfl, trivial⟩) rfl fun v121 => ?_
                        obtain ⟨⟨g122, g123⟩, H⟩ := gd_out H
                        refine goL_n (d' := 10) (st_ap_o (row := (x60).map (PV.d true)) (news := (([(.int .i64 (IntKind.wrap .i64 (((x12 + 1) : Int) - (1 : Int))))] : List PD)).map (PV.d true)) (m := 1) (vy := (PV.own (N + 105) v121 0 1)) el_22 ze_3 sz_3 by_3 (by decide) rfl rfl (hpL_miss rfl (hpL_miss rfl (hpL_miss rfl (hpL_miss rfl (hpL_miss rfl hpL_hit))))) rfl (src_own sz_3 hpL_hit rfl) g122 (by rw [List.length_map]; exact g123) (app_D _ _)) rfl fun v124 => ?_
                        refine goL_s (st_as (v := (PV.own (N + 10) v124 0 (x56 + 1))) rfl) rfl ?_
                        refine blockA_n ?_
                        refine thenA_n ?_
                        unfold J6_3
                        exact ⟨_, v117, v124, (x56 + 1), ((setD x16 ((((intD ((x60).getD (((IntKind.wrap .i64 ((x56 : Int) - (1 : Int)))).toNat * 1) .nil))).toNat * 4) + 3) [(.int .i64 (IntKind.wrap .i64 ((intD ((x16).getD ((((intD ((x60).getD (((IntKind.wrap .i64 ((x56 : Int) - (1 : Int)))).toNat * 1) .nil))).toNat * 4) + 3) .nil)) + (1 : Int))))]) ++ ([(.str (bytesD ([(.int .u8 (IntKind.wrap .u8 (IntKind.wrap .i64 ((97 : Int) + x14))))] : List PD))), (.int .i64 x88), (.int .i64 x100), (.int .i64 (0 : Int))] : List PD)), (x60 ++ ([(.int .i64 (IntKind.wrap .i64 (((x12 + 1) : Int) - (1 : Int))))] : List PD)), Gh.join ⟨rfl, rfl, rfl, rfl, trivial⟩ ⟨(hpL_miss rfl (hpL_miss rfl hpL_hit)), hpL_hit, trivial⟩, fun id hid => (hpL_low hid).trans (hlow102 id hid), H⟩
                      · replace H := cond_f H hb119
                        subst hy120
                        refine awp_skip ?_
                        refine blockA_n ?_
                        refine thenA_n ?_
                        unfold J6_3
                        exact ⟨_, v117, v98, x56, ((setD x16 ((((intD ((x60).getD (((IntKind.wrap .i64 ((x56 : Int) - (1 : Int)))).toNat * 1) .nil))).toNat * 4) + 3) [(.int .i64 (IntKind.wrap .i64 ((intD ((x16).getD ((((intD ((x60).getD (((IntKind.wrap .i64 ((x56 : Int) - (1 : Int)))).toNat * 1) .nil))).toNat * 4) + 3) .nil)) + (1 : Int))))]) ++ ([(.str (bytesD ([(.int .u8 (IntKind.wrap .u8 (IntKind.wrap .i64 ((97 : Int) + x14))))] : List PD))), (.int .i64 x88), (.int .i64 x100), (.int .i64 (0 : Int))] : List PD)), x60, Gh.join ⟨rfl, rfl, rfl, rfl, trivial⟩ ⟨hpL_hit, (hpL_miss rfl (hpL_miss rfl (hpL_miss rfl (hpL_miss rfl hpL_hit)))), trivial⟩, fun id hid => (hpL_low hid).trans (hlow102 id hid), H⟩
          · intro s hJ
            unfold J6_3 at hJ
            obtain ⟨hpx43, v39, v41, x38, x40, x42, hG45, hlow44, H⟩ := hJ
            unfold F6_K3 at H
            refine awp_gh hG45 ?_
            clear hG45
            refine awp_regionL1 ?_
            refine goL_s (st_mv (v := (PV.d true (.int .i64 x14))) rfl) rfl ?_
            refine goL_s (st_bin rfl rfl rfl rfl trivial) rfl ?_
            refine goL_s (st_as (v := (PV.d true (.int .i64 (IntKind.wrap .i64 (x14 + (1 : Int)))))) rfl) rfl ?_
            refine thenA_n ?_
            refine ⟨m1, Nat.lt_succ_self _, ?_⟩
            unfold J6_1
            exact ⟨_, v39, v41, (x12 + 1), x38, (IntKind.wrap .i64 (x14 + (1 : Int))), x40, x42, Gh.join ⟨rfl, rfl, rfl, rfl, trivial⟩ ⟨hpL_hit, (hpL_miss rfl hpL_hit), trivial⟩, fun id hid => (hpL_low hid).trans (hlow44 id hid), H⟩
        · replace H := cond_f H hb36
          subst hy37
          refine awp_exit ?_
          refine thenA_e ?_
          refine thenA_e ?_
          refine blockA_h ?_
          refine thenA_n ?_
          subst hy8
          refine awp_cut (J6_8 (mkC 136 N Try.prog hp X) N hp r) ?_ ?_
          · refine awp_regionL fun y151 hy151 => ?_
            refine goL_s (st_mv (v := (PV.own (N + 9) v31 0 x12)) rfl) rfl ?_
            refine goL_s (st_mv (v := (PV.own (N + 10) v32 0 x13)) rfl) rfl ?_
            refine goL_s (st_mv (v := (PV.own (N + 10) v32 0 x13)) rfl) rfl ?_
            refine goL_s (st_len_o sl_22 rfl (hpL_miss rfl hpL_hit)) rfl ?_
            refine goL_s (st_bin rfl rfl rfl rfl trivial) rfl ?_
            obtain ⟨g152, H⟩ := gd_out H
            refine goL_s (st_ia_o el_22 sz_3 (by decide) rfl (hpL_miss rfl hpL_hit) rfl g152) rfl ?_
            obtain ⟨⟨g153, g154⟩, H⟩ := gd_out H
            refine goL_s (st_ld_p (row := (x18).map (PV.d true)) ty_3 rfl (hpL_miss rfl hpL_hit) (row_at g153 (cI' g154))) rfl ?_
            obtain ⟨g155, H⟩ := gd_out H
            refine goL_s (st_ia_o el_26 sz_61 (by decide) rfl hpL_hit rfl g155) rfl ?_
            refine goL_s (st_fa_p (o' := ((((intD ((x18).getD (((IntKind.wrap .i64 ((x13 : Int) - (1 : Int)))).toNat * 1) .nil))).toNat * 4) + 3)) fi_61_3 (by decide) rfl hpL_hit rfl) rfl ?_
            obtain ⟨⟨g156, g157⟩, H⟩ := gd_out H
            refine goL_s (st_ld_p (row := (x16).map (PV.d true)) ty_3 rfl hpL_hit (row_at g156 (cI' g157))) rfl ?_
            refine goL_s (st_bin rfl rfl rfl rfl trivial) rfl ?_
            subst hy151
            refine awp_ifL (b := ((intD ((x16).getD ((((intD ((x18).getD (((IntKind.wrap .i64 ((x13 : Int) - (1 : Int)))).toNat * 1) .nil))).toNat * 4) + 3) .nil)) == (0 : Int))) rfl (fun y159 hy159 hb158 => ?_) (fun y159 hy159 hb158 => ?_)
            · replace H := cond_t H hb158
              subst hy159
              refine awp_regionL fun y160 hy160 => ?_
              refine goL_s (st_mv (v := (PV.own (N + 9) v31 0 x12)) rfl) rfl ?_
              refine goL_s (st_mv (v := (PV.own (N + 10) v32 0 x13)) rfl) rfl ?_
              refine goL_s (st_mv (v := (PV.own (N + 10) v32 0 x13)) rfl) rfl ?_
              refine goL_s (st_len_o sl_22 rfl (hpL_miss rfl hpL_hit)) rfl ?_
              refine goL_s (st_bin rfl rfl rfl rfl trivial) rfl ?_
              obtain ⟨g161, H⟩ := gd_out H
              refine goL_s (st_ia_o el_22 sz_3 (by decide) rfl (hpL_miss rfl hpL_hit) rfl g161) rfl ?_
              obtain ⟨⟨g162, g163⟩, H⟩ := gd_out H
              refine goL_s (st_ld_p (row := (x18).map (PV.d true)) ty_3 rfl (hpL_miss rfl hpL_hit) (row_at g162 (cI' g163))) rfl ?_
              obtain ⟨g164, H⟩ := gd_out H
              refine goL_s (st_ia_o el_26 sz_61 (by decide) rfl hpL_hit rfl g164) rfl ?_
              refine goL_s (st_fa_p (o' := ((((intD ((x18).getD (((IntKind.wrap .i64 ((x13 : Int) - (1 : Int)))).toNat * 1) .nil))).toNat * 4) + 3)) fi_61_3 (by decide) rfl hpL_hit rfl) rfl ?_
              obtain ⟨⟨g165, g166⟩, H⟩ := gd_out H
              refine goL_s (st_ld_p (row := (x16).map (PV.d true)) ty_3 rfl hpL_hit (row_at g165 (cI' g166))) rfl ?_
              refine goL_s (st_bin rfl rfl rfl rfl trivial) rfl ?_
              obtain ⟨g167, H⟩ := gd_out H
              refine goL_s (st_ia_o el_26 sz_61 (by decide) rfl hpL_hit rfl g167) rfl ?_
              refine goL_s (st_fa_p (o' := ((((intD ((x18).getD (((IntKind.wrap .i64 ((x13 : Int) - (1 : Int)))).toNat * 1) .nil))).toNat * 4) + 3)) fi_61_3 (by decide) rfl hpL_hit rfl) rfl ?_
              obtain ⟨g168, H⟩ := gd_out H
              refine goL_o0 (st_sto (x := (PV.d true (.int .i64 (IntKind.wrap .i64 ((intD ((x16).getD ((((intD ((x18).getD (((IntKind.wrap .i64 ((x13 : Int) - (1 : Int)))).toNat * 1) .nil))).toNat * 4) + 3) .nil)) + (1 : Int)))))) (cs := ([(.int .i64 (IntKind.wrap .i64 ((intD ((x16).getD ((((intD ((x18).getD (((IntKind.wrap .i64 ((x13 : Int) - (1 : Int)))).toNat * 1) .nil))).toNat * 4) + 3) .nil)) + (1 : Int))))] : List PD).map (PV.d true)) (row := (x16).map (PV.d true)) ty_3 rfl hpL_hit rfl rfl rfl (by rw [List.length_map]; exact g168) ⟨rfl, trivial⟩ row_setD) rfl ?_
              subst hy160
              refine awp_regionL1 ?_
              refine goL_s (st_mv (v := (PV.own (N + 9) v31 0 x12)) rfl) rfl ?_
              refine goL_s (st_buildR (parts := [(0, (PV.d true (.str ([122] : List UInt8)))), (2, (PV.d true (.int .i64 (4 : Int))))]) (cells := [(PV.d true (.str ([122] : List UInt8))), (PV.d true (.int .i64 (0 : Int))), (PV.d true (.int .i64 (4 : Int))), (PV.d true (.int .i64 (0 : Int)))]) ze_61 sr_61 rfl (FillR.cons (cells' := [(PV.d true (.str ([122] : List UInt8))), (PV.d true (.int .i64 (0 : Int))), (PV.d true (.int .i64 (0 : Int))), (PV.d true (.int .i64 (0 : Int)))]) rfl rfl rfl (Nat.le_of_ble_eq_true rfl) ⟨rfl, trivial⟩ rfl (FillR.cons (cells' := [(PV.d true (.str ([122] : List UInt8))), (PV.d true (.int .i64 (0 : Int))), (PV.d true (.int .i64 (4 : Int))), (PV.d true (.int .i64 (0 : Int)))]) rfl rfl rfl (Nat.le_of_ble_eq_true rfl) ⟨rfl, trivial⟩ rfl FillR.nil))) rfl ?_
              refine goL_n (d' := 133) (st_bs1 (x := (PV.agg [(PV.d true (.str ([122] : List UInt8))), (PV.d true (.int .i64 (0 : Int))), (PV.d true (.int .i64 (4 : Int))), (PV.d true (.int .i64 (0 : Int)))])) (cs := [(PV.d true (.str ([122] : List UInt8))), (PV.d true (.int .i64 (0 : Int))), (PV.d true (.int .i64 (4 : Int))), (PV.d true (.int .i64 (0 : Int)))]) el_26 ze_61 sz_61 (by decide) rfl (by decide) rfl rfl rfl ⟨rfl, rfl, rfl, rfl, trivial⟩) rfl fun v169 => ?_
              obtain ⟨⟨g170, g171⟩, H⟩ := gd_out H
              refine goL_n (d' := 9) (st_ap_o (row := ((setD x16 ((((intD ((x18).getD (((IntKind.wrap .i64 ((x13 : Int) - (1 : Int)))).toNat * 1) .nil))).toNat * 4) + 3) [(.int .i64 (IntKind.wrap .i64 ((intD ((x16).getD ((((intD ((x18).getD (((IntKind.wrap .i64 ((x13 : Int) - (1 : Int)))).toNat * 1) .nil))).toNat * 4) + 3) .nil)) + (1 : Int))))])).map (PV.d true)) (news := (([(.str ([122] : List UInt8)), (.int .i64 (0 : Int)), (.int .i64 (4 : Int)), (.int .i64 (0 : Int))] : List PD)).map (PV.d true)) (m := 1) (vy := (PV.own (N + 133) v169 0 1)) el_26 ze_61 sz_61 by_61 (by decide) rfl rfl (hpL_miss rfl hpL_hit) rfl (src_own sz_61 hpL_hit rfl) g170 (by rw [List.length_map]; exact g171) (app_D _ _)) rfl fun v172 => ?_
              refine goL_s (st_as (v := (PV.own (N + 9) v172 0 (x12 + 1))) rfl) rfl ?_
              refine thenA_n ?_
              unfold J6_8
              exact ⟨_, v172, (x12 + 1), ((setD x16 ((((intD ((x18).getD (((IntKind.wrap .i64 ((x13 : Int) - (1 : Int)))).toNat * 1) .nil))).toNat * 4) + 3) [(.int .i64 (IntKind.wrap .i64 ((intD ((x16).getD ((((intD ((x18).getD (((IntKind.wrap .i64 ((x13 : Int) - (1 : Int)))).toNat * 1) .nil))).toNat * 4) + 3) .nil)) + (1 : Int))))]) ++ ([(.str ([122] : List UInt8)), (.int .i64 (0 : Int)), (.int .i64 (4 : Int)), (.int .i64 (0 : Int))] : List PD)), Gh.join ⟨rfl, trivial⟩ ⟨hpL_hit, trivial⟩, fun id hid => (hpL_low hid).trans (hlow34 id hid), H⟩
            · replace H := cond_f H hb158
              subst hy159
              refine awp_skip ?_
              refine thenA_n ?_
              unfold J6_8
              exact ⟨_, v31, x12, x16, Gh.join ⟨rfl, trivial⟩ ⟨hpL_hit, trivial⟩, fun id hid => (hpL_low hid).trans (hlow34 id hid), H⟩
          · intro s hJ
            unfold J6_8 at hJ
            obtain ⟨hpx146, v144, x143, x145, hG148, hlow147, H⟩ := hJ
            unfold F6_K8 at H
            refine awp_gh hG148 ?_
            clear hG148
            refine awp_regionL fun y149 hy149 => ?_
            refine goL_s (st_mv (v := (PV.own (N + 9) v144 0 x143)) rfl) rfl ?_
            refine goL_s (st_as (v := (PV.own (N + 9) v144 0 x143)) rfl) rfl ?_
            subst hy149
            obtain ⟨g150, H⟩ := gd_out H
            refine awp_frzs [3, 135, 2] (R := x145) hX ⟨rfl, rfl, rfl, trivial⟩ hpL_hit (toDs_true _) (mul_sz sz_61 g150) ?_
            refine awp_ret ?_
            obtain rfl := Option.some.inj H
            exact ret1 (res_t (x := (PV.d true (.lst x143 x145))) (d := (.lst x143 x145)) rfl rfl) (fun id hid => (hpL_low hid).trans (hlow147 id hid)) (fun _ _ => rfl) lowOK_same ⟨rfl, rfl⟩ (.inr rfl)

def F49 (n : Nat) (x1 : PD) (x2 : PD) (kq3 : Bool) (x4 : PD) (x5 : Int) : Option (Int × Int) :=
  gd (isSlD x4 = true) <|
  bif (decide ((lenN x4 : Int) ≤ x5)) then
    some ((0 : Int), x5)
  else
    gd (idxOK 1 x4 (IntKind.wrap .i64 ((IntKind.wrap .i64 (x5 + (1 : Int))) - (1 : Int)))) <|
    gd ((1 ≤ (((cellsD x4).drop (((IntKind.wrap .i64 ((IntKind.wrap .i64 (x5 + (1 : Int))) - (1 : Int)))).toNat * 1))).length) ∧ (isI .i64 ((((cellsD x4).drop (((IntKind.wrap .i64 ((IntKind.wrap .i64 (x5 + (1 : Int))) - (1 : Int)))).toNat * 1))).getD 0 .nil) = true)) <|
    some ((intD ((((cellsD x4).drop (((IntKind.wrap .i64 ((IntKind.wrap .i64 (x5 + (1 : Int))) - (1 : Int)))).toNat * 1))).getD 0 .nil)), (IntKind.wrap .i64 (x5 + (1 : Int))))

set_option maxHeartbeats 4000000 in
theorem f49_calls {n : Nat} {x1 : PD} {x2 : PD} {kq3 : Bool} {x4 : PD} {x5 : Int} {r : Int × Int} (H : F49 n x1 x2 kq3 x4 x5 = some r) (N : Nat) (hp : HP) {id1 w1 : Nat} (hid1 : id1 < N) (ho1 : hp id1 = (w1, some (.cells 92 [(PV.d true x1), (PV.d true x2), (dk kq3 x4), (PV.d true (.int .i64 x5))]))) : ACalls Try.prog 49 N [(PV.ptr id1 w1 0)] hp fun r' hp' => r' = (PV.d true (.int .i64 r.1)) ∧ hp' = (upd hp id1 (w1, some (.cells 92 [(PV.d true x1), (PV.d true x2), (dk kq3 x4), (PV.d true (.int .i64 r.2))]))) := by
  unfold F49 at H
  refine acalls_body Try.func49 rfl rfl Try.ntmps49 (by simp) fun X hX => ?_
  refine awp_start (l := [(0, (PV.ptr id1 w1 0))]) (N := N) ⟨rfl, trivial⟩ ?_
  have hlow0 : ∀ id, id < N → id ≠ id1 → hp id = hp id := fun _ _ _ => rfl
  refine awp_regionL fun y6 hy6 => ?_
  refine goL_s (st_as (v := (PV.d true (.int .i64 (0 : Int)))) rfl) rfl ?_
  subst hy6
  refine awp_hide fun y7 hy7 => ?_
  refine awp_drawL 11 9 [] follows_any (by kernel_rfl) (by kernel_rfl) (by kernel_rfl) (by kernel_rfl) fun opsd9 Kd9 hod9 hKd9 => ?_
  refine goA_s trivial (st_mv (v := (PV.ptr id1 w1 0)) rfl) rfl fun rd0 => ?_
  refine goA_s trivial (st_nil_p rfl (hpL_low' hid1 ho1)) rfl fun rd1 => ?_
  refine goA_s trivial (st_fa_p (o' := 3) fi_92_3 (by decide) rfl (hpL_low' hid1 ho1) rfl) rfl fun rd2 => ?_
  refine goA_s trivial (st_ld_p (c := (PV.d true (.int .i64 x5))) ty_3 rfl (hpL_low' hid1 ho1) rfl) rfl fun rd3 => ?_
  refine goA_s trivial (st_mv (v := (PV.ptr id1 w1 0)) rfl) rfl fun rd4 => ?_
  refine goA_s trivial (st_nil_p rfl (hpL_low' hid1 ho1)) rfl fun rd5 => ?_
  refine goA_s trivial (st_fa_p (o' := 2) fi_92_2 (by decide) rfl (hpL_low' hid1 ho1) rfl) rfl fun rd6 => ?_
  refine goA_s trivial (st_ld_p (c := (dk kq3 x4)) ty_22 rfl (hpL_low' hid1 ho1) rfl) rfl fun rd7 => ?_
  obtain ⟨g10, H⟩ := gd_out H
  refine goA_s trivial (st_len_dk (y := x4) sl_22 rfl g10) rfl fun rd8 => ?_
  refine goA_nil ?_
  rw [hKd9]
  refine ⟨?_, goOps_goL ?_⟩
  · trivial
  refine goL_s (st_bin rfl rfl rfl rfl trivial) rfl ?_
  refine awp_ifL (b := (decide ((lenN x4 : Int) ≤ x5))) rfl (fun y12 hy12 hb11 => ?_) (fun y12 hy12 hb11 => ?_)
  · replace H := cond_t H hb11
    subst hy12
    refine awp_regionL fun y13 hy13 => ?_
    refine goL_s (st_as (v := (PV.d true (.int .i64 (0 : Int)))) rfl) rfl ?_
    subst hy13
    refine awp_ret ?_
    refine thenA_r ?_
    obtain rfl := Option.some.inj H
    refine ret1 (res_t (x := (PV.d true (.int .i64 (0 : Int)))) (d := (.int .i64 (0 : Int))) rfl rfl) (hp2 := (upd hp id1 (w1, some (.cells 92 [(PV.d true x1), (PV.d true x2), (dk kq3 x4), (PV.d true (.int .i64 x5))])))) ?_ ?_ (lowOK_also lowOK_same ⟨trivial, trivial, loc_dk, trivial, trivial⟩) ⟨rfl, rfl⟩ (.inr rfl)
    · intro id hid
      by_cases nid1 : id = id1
      · rw [nid1]; exact (hpL_low hid1).trans (ho1.trans (Eq.symm (upd_eq _ _ _)))
      exact (hpL_low hid).trans ((hlow0 id hid nid1).trans (Eq.symm ((upd_ne _ _ nid1).trans (rfl))))
    · intro id hid; exact (upd_ne _ _ (fun e => absurd hid1 (by omega))).trans (rfl)
  · replace H := cond_f H hb11
    subst hy12
    refine awp_skip ?_
    refine thenA_n ?_
    subst hy7
    refine awp_regionL fun y14 hy14 => ?_
    refine goL_s (st_mv (v := (PV.ptr id1 w1 0)) rfl) rfl ?_
    refine goL_s (st_nil_p rfl (hpL_low' hid1 ho1)) rfl ?_
    refine goL_s (st_fa_p (o' := 3) fi_92_3 (by decide) rfl (hpL_low' hid1 ho1) rfl) rfl ?_
    refine goL_s (st_ld_p (c := (PV.d true (.int .i64 x5))) ty_3 rfl (hpL_low' hid1 ho1) rfl) rfl ?_
    refine goL_s (st_bin rfl rfl rfl rfl trivial) rfl ?_
    refine goL_s (st_nil_p rfl (hpL_low' hid1 ho1)) rfl ?_
    refine goL_s (st_fa_p (o' := 3) fi_92_3 (by decide) rfl (hpL_low' hid1 ho1) rfl) rfl ?_
    refine goL_c0 (st_sto (x := (PV.d true (.int .i64 (IntKind.wrap .i64 (x5 + (1 : Int)))))) (cs := [(PV.d true (.int .i64 (IntKind.wrap .i64 (x5 + (1 : Int)))))]) (row' := [(PV.d true x1), (PV.d true x2), (dk kq3 x4), (PV.d true (.int .i64 (IntKind.wrap .i64 (x5 + (1 : Int)))))]) ty_3 rfl (hpL_low' hid1 ho1) rfl rfl rfl (Nat.le_of_ble_eq_true rfl) ⟨rfl, trivial⟩ rfl) hid1 rfl ?_
    obtain ⟨hpx15, qhpx15⟩ : ∃ h, h = (upd hp id1 (w1, some (.cells 92 [(PV.d true x1), (PV.d true x2), (dk kq3 x4), (PV.d true (.int .i64 (IntKind.wrap .i64 (x5 + (1 : Int)))))]))) := ⟨_, rfl⟩
    rw [← qhpx15]
    have hc16 : hpx15 id1 = (w1, some (.cells 92 [(PV.d true x1), (PV.d true x2), (dk kq3 x4), (PV.d true (.int .i64 (IntKind.wrap .i64 (x5 + (1 : Int)))))])) := (congrFun qhpx15 id1).trans (upd_eq _ _ _)
    have hlow17 : ∀ id, id < N → id ≠ id1 → hpx15 id = hp id := fun id hid nid1 => (congrFun qhpx15 id).trans ((upd_ne _ _ nid1).trans (hlow0 id hid nid1))
    clear qhpx15
    subst hy14
    refine awp_drawL 13 9 [] follows_any (by kernel_rfl) (by kernel_rfl) (by kernel_rfl) (by kernel_rfl) fun opsd19 Kd19 hod19 hKd19 => ?_
    refine goA_s trivial (st_mv (v := (PV.ptr id1 w1 0)) rfl) rfl fun rd0 => ?_
    refine goA_s trivial (st_nil_p rfl (hpL_low' hid1 hc16)) rfl fun rd1 => ?_
    refine goA_s trivial (st_fa_p (o' := 2) fi_92_2 (by decide) rfl (hpL_low' hid1 hc16) rfl) rfl fun rd2 => ?_
    refine goA_s trivial (st_ld_p (c := (dk kq3 x4)) ty_22 rfl (hpL_low' hid1 hc16) rfl) rfl fun rd3 => ?_
    refine goA_s trivial (st_mv (v := (PV.ptr id1 w1 0)) rfl) rfl fun rd4 => ?_
    refine goA_s trivial (st_nil_p rfl (hpL_low' hid1 hc16)) rfl fun rd5 => ?_
    refine goA_s trivial (st_fa_p (o' := 3) fi_92_3 (by decide) rfl (hpL_low' hid1 hc16) rfl) rfl fun rd6 => ?_
    refine goA_s trivial (st_ld_p (c := (PV.d true (.int .i64 (IntKind.wrap .i64 (x5 + (1 : Int)))))) ty_3 rfl (hpL_low' hid1 hc16) rfl) rfl fun rd7 => ?_
    refine goA_s trivial (st_bin rfl rfl rfl rfl trivial) rfl fun rd8 => ?_
    refine goA_nil ?_
    rw [hKd19]
    refine ⟨?_, goOps_goL ?_⟩
    · trivial
    obtain ⟨g20, H⟩ := gd_out H
    refine goL_s (st_ia_dk el_22 sz_3 (by decide) (y := x4) rfl rfl g20) rfl ?_
    obtain ⟨⟨g21, g22⟩, H⟩ := gd_out H
    refine goL_s (st_ld_lp ty_3 rfl g21 (cI g22)) rfl ?_
    refine goL_s (st_as (v := (PV.d true (.int .i64 (intD ((((cellsD x4).drop (((IntKind.wrap .i64 ((IntKind.wrap .i64 (x5 + (1 : Int))) - (1 : Int)))).toNat * 1))).getD 0 .nil))))) rfl) rfl ?_
    refine awp_ret ?_
    obtain rfl := Option.some.inj H
    refine ret1 (res_t (x := (PV.d true (.int .i64 (intD ((((cellsD x4).drop (((IntKind.wrap .i64 ((IntKind.wrap .i64 (x5 + (1 : Int))) - (1 : Int)))).toNat * 1))).getD 0 .nil))))) (d := (.int .i64 (intD ((((cellsD x4).drop (((IntKind.wrap .i64 ((IntKind.wrap .i64 (x5 + (1 : Int))) - (1 : Int)))).toNat * 1))).getD 0 .nil)))) rfl rfl) (hp2 := (upd hp id1 (w1, some (.cells 92 [(PV.d true x1), (PV.d true x2), (dk kq3 x4), (PV.d true (.int .i64 (IntKind.wrap .i64 (x5 + (1 : Int)))))])))) ?_ ?_ (lowOK_also lowOK_same ⟨trivial, trivial, loc_dk, trivial, trivial⟩) ⟨rfl, rfl⟩ (.inr rfl)
    · intro id hid
      by_cases nid1 : id = id1
      · rw [nid1]; exact (hpL_low hid1).trans (hc16.trans (Eq.symm (upd_eq _ _ _)))
      exact (hpL_low hid).trans ((hlow17 id hid nid1).trans (Eq.symm ((upd_ne _ _ nid1).trans (rfl))))
    · intro id hid; exact (upd_ne _ _ (fun e => absurd hid1 (by omega))).trans (rfl)

def F33_K2 (lo1 : Int → Int → Nat → List PD → Option (Int × (List UInt8) × PD × Int)) (x50 : Int) (x73 : Int) (x76 : Nat) (x78 : List PD) : Option (Int × (List UInt8) × PD × Int) :=
  lo1 (IntKind.wrap .i64 (x50 + (1 : Int))) x73 x76 x78

def J33_2 (C : Ctx) (N : Nat) (hp : HP) (id1 w1 : Nat) (lo1 : Int → Int → Nat → List PD → Option (Int × (List UInt8) × PD × Int)) (x50 : Int) (x1 : Int) (x2 : PD) (x3 : PD) (kq4 : Bool) (x5 : PD) (rr : Int × (List UInt8) × PD × Int) (s : ASt) : Prop :=
  ∃ (hpx : HP) (v74 v75 v77 : Nat) (x73 : Int) (x76 : Nat) (x78 : List PD), Gh C s ⟨envL [(0, (PV.ptr id1 w1 0)), (1, (PV.d true (.int .i64 x1))), (4, (PV.ptr (N + 4) v74 0)), (6, (PV.ptr (N + 6) v75 0)), (7, (PV.d true (.int .i64 x50)))], hpL N hpx [(4, (v74, some (.cells 65 [(PV.d true (.int .i64 (0 : Int))), (PV.d true (.str ([] : List UInt8))), (PV.d true .nil)]))), (6, (v75, some (.cells 65 [(PV.d true (.int .i64 (0 : Int))), (PV.d true (.str ([] : List UInt8))), (PV.own (N + 102) v77 0 x76)]))), (102, (v77, some (.cells 28 ((x78).map (PV.d true)))))]⟩ ∧ (∀ id, id < N → id ≠ id1 → hpx id = hp id) ∧ hpx id1 = (w1, some (.cells 92 [(PV.d true x2), (PV.d true x3), (dk kq4 x5), (PV.d true (.int .i64 x73))])) ∧ F33_K2 lo1 x50 x73 x76 x78 = some rr

def F33_L5 (x100 : Int) (self : Int → PD → PD → Bool → PD → Int → Option (Int × (List UInt8) × PD × Int)) (x50 : Int) (x2 : PD) (x3 : PD) (kq4 : Bool) (x5 : PD) (x54 : Nat) (x56 : List PD) (lo1 : Int → Int → Nat → List PD → Option (Int × (List UInt8) × PD × Int)) : Nat → Nat → Int → Int → List PD → Option (Int × (List UInt8) × PD × Int)
  | 0, _, _, _, _ => none
  | m5 + 1, x115, x116, x117, x121 =>
    bif (decide (x116 < x100)) then
      bd (self x50 x2 x3 kq4 x5 x117) fun x140 =>
      gd (isSlD x140.2.2.1 = true) <|
      gd ((apOK 48 (x115 + 1)) ∧ (x115 * 3 = (x121).length)) <|
      (F33_L5 x100 self x50 x2 x3 kq4 x5 x54 x56 lo1 m5) (x115 + 1) (IntKind.wrap .i64 (x116 + (1 : Int))) x140.2.2.2 (x121 ++ ([(.int .i64 x140.1), (.str x140.2.1), x140.2.2.1] : List PD))
    else
      gd (x115 * 3 = (x121).length) <|
      gd (isSlD (.lst x115 x121) = true) <|
      gd ((apOK 24 (x54 + 1)) ∧ (x54 * 1 = (x56).length)) <|
      F33_K2 lo1 x50 x117 (x54 + 1) (x56 ++ ([(.lst x115 x121)] : List PD))

def J33_5 (C : Ctx) (N : Nat) (hp : HP) (id1 w1 : Nat) (x100 : Int) (self : Int → PD → PD → Bool → PD → Int → Option (Int × (List UInt8) × PD × Int)) (x50 : Int) (x2 : PD) (x3 : PD) (kq4 : Bool) (x5 : PD) (x54 : Nat) (x56 : List PD) (lo1 : Int → Int → Nat → List PD → Option (Int × (List UInt8) × PD × Int)) (x1 : Int) (rr : Int × (List UInt8) × PD × Int) (mm : Nat) (s : ASt) : Prop :=
  ∃ (hpx : HP) (v118 v119 v120 v122 : Nat) (x115 : Nat) (x116 : Int) (x117 : Int) (x121 : List PD), Gh C s ⟨envL [(0, (PV.ptr id1 w1 0)), (1, (PV.d true (.int .i64 x1))), (4, (PV.ptr (N + 4) v118 0)), (6, (PV.ptr (N + 6) v119 0)), (7, (PV.d true (.int .i64 x50))), (8, (PV.d true (.int .i64 x100))), (9, (PV.own (N + 97) v120 0 x115)), (10, (PV.d true (.int .i64 x116)))], hpL N hpx [(4, (v118, some (.cells 65 [(PV.d true (.int .i64 (0 : Int))), (PV.d true (.str ([] : List UInt8))), (PV.d true .nil)]))), (6, (v119, some (.cells 65 [(PV.d true (.int .i64 (0 : Int))), (PV.d true (.str ([] : List UInt8))), (PV.own (N + 102) v122 0 x54)]))), (97, (v120, some (.cells 65 ((x121).map (PV.d true))))), (102, (v122, some (.cells 28 ((x56).map (PV.d true)))))]⟩ ∧ (∀ id, id < N → id ≠ id1 → hpx id = hp id) ∧ hpx id1 = (w1, some (.cells 92 [(PV.d true x2), (PV.d true x3), (dk kq4 x5), (PV.d true (.int .i64 x117))])) ∧ F33_L5 x100 self x50 x2 x3 kq4 x5 x54 x56 lo1 mm x115 x116 x117 x121 = some rr

def F33_K4 (self : Int → PD → PD → Bool → PD → Int → Option (Int × (List UInt8) × PD × Int)) (x50 : Int) (x2 : PD) (x3 : PD) (kq4 : Bool) (x5 : PD) (x54 : Nat) (x56 : List PD) (lo1 : Int → Int → Nat → List PD → Option (Int × (List UInt8) × PD × Int)) (n : Nat) (x100 : Int) (x101 : Int) : Option (Int × (List UInt8) × PD × Int) :=
  F33_L5 x100 self x50 x2 x3 kq4 x5 x54 x56 lo1 n 0 (0 : Int) x101 ([] : List PD)

def J33_4 (C : Ctx) (N : Nat) (hp : HP) (id1 w1 : Nat) (self : Int → PD → PD → Bool → PD → Int → Option (Int × (List UInt8) × PD × Int)) (x50 : Int) (x2 : PD) (x3 : PD) (kq4 : Bool) (x5 : PD) (x54 : Nat) (x56 : List PD) (lo1 : Int → Int → Nat → List PD → Option (Int × (List UInt8) × PD × Int)) (n : Nat) (x1 : Int) (rr : Int × (List UInt8) × PD × Int) (s : ASt) : Prop :=
  ∃ (hpx : HP) (v102 v103 v104 : Nat) (x100 : Int) (x101 : Int), Gh C s ⟨envL [(0, (PV.ptr id1 w1 0)), (1, (PV.d true (.int .i64 x1))), (4, (PV.ptr (N + 4) v102 0)), (6, (PV.ptr (N + 6) v103 0)), (7, (PV.d true (.int .i64 x50))), (8, (PV.d true (.int .i64 x100)))], hpL N hpx [(4, (v102, some (.cells 65 [(PV.d true (.int .i64 (0 : Int))), (PV.d true (.str ([] : List UInt8))), (PV.d true .nil)]))), (6, (v103, some (.cells 65 [(PV.d true (.int .i64 (0 : Int))), (PV.d true (.str ([] : List UInt8))), (PV.own (N + 102) v104 0 x54)]))), (102, (v104, some (.cells 28 ((x56).map (PV.d true)))))]⟩ ∧ (∀ id, id < N → id ≠ id1 → hpx id = hp id) ∧ hpx id1 = (w1, some (.cells 92 [(PV.d true x2), (PV.d true x3), (dk kq4 x5), (PV.d true (.int .i64 x101))])) ∧ F33_K4 self x50 x2 x3 kq4 x5 x54 x56 lo1 n x100 x101 = some rr

def F33_K3 (x2 : PD) (x50 : Int) (n : Nat) (x3 : PD) (kq4 : Bool) (x5 : PD) (self : Int → PD → PD → Bool → PD → Int → Option (Int × (List UInt8) × PD × Int)) (x54 : Nat) (x56 : List PD) (lo1 : Int → Int → Nat → List PD → Option (Int × (List UInt8) × PD × Int)) (x91 : Int) (x92 : Int) : Option (Int × (List UInt8) × PD × Int) :=
  gd (idxOK 4 x2 x50) <|
  gd (1 ≤ (((cellsD x2).drop ((x50).toNat * 4))).length) <|
  gd ((1 ≤ (((((cellsD x2).drop ((x50).toNat * 4))).drop 1)).length) ∧ (isI .i64 ((((((cellsD x2).drop ((x50).toNat * 4))).drop 1)).getD 0 .nil) = true)) <|
  bif ((intD ((((((cellsD x2).drop ((x50).toNat * 4))).drop 1)).getD 0 .nil)) == (2 : Int)) then
    bd (F49 n x2 x3 kq4 x5 x92) fun x164 =>
    bd (F50 n x164.1 (4 : Int)) fun x169 =>
    F33_K4 self x50 x2 x3 kq4 x5 x54 x56 lo1 n x169 x164.2
  else
    F33_K4 self x50 x2 x3 kq4 x5 x54 x56 lo1 n x91 x92

def J33_3 (C : Ctx) (N : Nat) (hp : HP) (id1 w1 : Nat) (x2 : PD) (x50 : Int) (n : Nat) (x3 : PD) (kq4 : Bool) (x5 : PD) (self : Int → PD → PD → Bool → PD → Int → Option (Int × (List UInt8) × PD × Int)) (x54 : Nat) (x56 : List PD) (lo1 : Int → Int → Nat → List PD → Option (Int × (List UInt8) × PD × Int)) (x1 : Int) (rr : Int × (List UInt8) × PD × Int) (s : ASt) : Prop :=
  ∃ (hpx : HP) (v93 v94 v95 : Nat) (x91 : Int) (x92 : Int), Gh C s ⟨envL [(0, (PV.ptr id1 w1 0)), (1, (PV.d true (.int .i64 x1))), (4, (PV.ptr (N + 4) v93 0)), (6, (PV.ptr (N + 6) v94 0)), (7, (PV.d true (.int .i64 x50))), (8, (PV.d true (.int .i64 x91)))], hpL N hpx [(4, (v93, some (.cells 65 [(PV.d true (.int .i64 (0 : Int))), (PV.d true (.str ([] : List UInt8))), (PV.d true .nil)]))), (6, (v94, some (.cells 65 [(PV.d true (.int .i64 (0 : Int))), (PV.d true (.str ([] : List UInt8))), (PV.own (N + 102) v95 0 x54)]))), (102, (v95, some (.cells 28 ((x56).map (PV.d true)))))]⟩ ∧ (∀ id, id < N → id ≠ id1 → hpx id = hp id) ∧ hpx id1 = (w1, some (.cells 92 [(PV.d true x2), (PV.d true x3), (dk kq4 x5), (PV.d true (.int .i64 x92))])) ∧ F33_K3 x2 x50 n x3 kq4 x5 self x54 x56 lo1 x91 x92 = some rr

def F33_L1 (x2 : PD) (x3 : PD) (x1 : Int) (n : Nat) (kq4 : Bool) (x5 : PD) (self : Int → PD → PD → Bool → PD → Int → Option (Int × (List UInt8) × PD × Int)) : Nat → Int → Int → Nat → List PD → Option (Int × (List UInt8) × PD × Int)
  | 0, _, _, _, _ => none
  | m1 + 1, x50, x51, x54, x56 =>
    gd (isSlD x2 = true) <|
    bif (decide (x50 < (lenN x2 : Int))) then
      gd (idxOK 1 x3 x50) <|
      gd ((1 ≤ (((cellsD x3).drop ((x50).toNat * 1))).length) ∧ (isI .i64 ((((cellsD x3).drop ((x50).toNat * 1))).getD 0 .nil) = true)) <|
      bif ((intD ((((cellsD x3).drop ((x50).toNat * 1))).getD 0 .nil)) != x1) then
        F33_K2 (F33_L1 x2 x3 x1 n kq4 x5 self m1) x50 x51 x54 x56
      else
        gd (idxOK 4 x2 x50) <|
        gd (1 ≤ (((cellsD x2).drop ((x50).toNat * 4))).length) <|
        gd ((1 ≤ (((((cellsD x2).drop ((x50).toNat * 4))).drop 1)).length) ∧ (isI .i64 ((((((cellsD x2).drop ((x50).toNat * 4))).drop 1)).getD 0 .nil) = true)) <|
        bif ((intD ((((((cellsD x2).drop ((x50).toNat * 4))).drop 1)).getD 0 .nil)) == (1 : Int)) then
          bd (F49 n x2 x3 kq4 x5 x51) fun x178 =>
          bd (F50 n x178.1 (2 : Int)) fun x183 =>
          F33_K3 x2 x50 n x3 kq4 x5 self x54 x56 (F33_L1 x2 x3 x1 n kq4 x5 self m1) x183 x178.2
        else
          F33_K3 x2 x50 n x3 kq4 x5 self x54 x56 (F33_L1 x2 x3 x1 n kq4 x5 self m1) (1 : Int) x51
    else
      gd (x54 * 1 = (x56).length) <|
      gd (isSlD (.lst x54 x56) = true) <|
      some ((0 : Int), ([] : List UInt8), (.lst x54 x56), x51)

def J33_1 (C : Ctx) (N : Nat) (hp : HP) (id1 w1 : Nat) (x2 : PD) (x3 : PD) (x1 : Int) (n : Nat) (kq4 : Bool) (x5 : PD) (self : Int → PD → PD → Bool → PD → Int → Option (Int × (List UInt8) × PD × Int)) (rr : Int × (List UInt8) × PD × Int) (mm : Nat) (s : ASt) : Prop :=
  ∃ (hpx : HP) (v52 v53 v55 : Nat) (x50 : Int) (x51 : Int) (x54 : Nat) (x56 : List PD), Gh C s ⟨envL [(0, (PV.ptr id1 w1 0)), (1, (PV.d true (.int .i64 x1))), (4, (PV.ptr (N + 4) v52 0)), (6, (PV.ptr (N + 6) v53 0)), (7, (PV.d true (.int .i64 x50)))], hpL N hpx [(4, (v52, some (.cells 65 [(PV.d true (.int .i64 (0 : Int))), (PV.d true (.str ([] : List UInt8))), (PV.d true .nil)]))), (6, (v53, some (.cells 65 [(PV.d true (.int .i64 (0 : Int))), (PV.d true (.str ([] : List UInt8))), (PV.own (N + 102) v55 0 x54)]))), (102, (v55, some (.cells 28 ((x56).map (PV.d true)))))]⟩ ∧ (∀ id, id < N → id ≠ id1 → hpx id = hp id) ∧ hpx id1 = (w1, some (.cells 92 [(PV.d true x2), (PV.d true x3), (dk kq4 x5), (PV.d true (.int .i64 x51))])) ∧ F33_L1 x2 x3 x1 n kq4 x5 self mm x50 x51 x54 x56 = some rr

def F33 : Nat → Int → PD → PD → Bool → PD → Int → Option (Int × (List UInt8) × PD × Int)
  | 0, _, _, _, _, _, _ => none
  | n + 1, x1, x2, x3, kq4, x5, x6 =>
    bd (F49 n x2 x3 kq4 x5 x6) fun x10 =>
    gd (idxOK 4 x2 x1) <|
    gd (2 ≤ (((cellsD x2).drop ((x1).toNat * 4))).length) <|
    gd ((1 ≤ (((((cellsD x2).drop ((x1).toNat * 4))).drop 2)).length) ∧ (isI .i64 ((((((cellsD x2).drop ((x1).toNat * 4))).drop 2)).getD 0 .nil) = true)) <|
    bif ((intD ((((((cellsD x2).drop ((x1).toNat * 4))).drop 2)).getD 0 .nil)) == (1 : Int)) then
      bd (F50 n x10.1 (2 : Int)) fun x25 =>
      some (x25, ([] : List UInt8), .nil, x10.2)
    else
      bif ((intD ((((((cellsD x2).drop ((x1).toNat * 4))).drop 2)).getD 0 .nil)) == (2 : Int)) then
        bd (F50 n x10.1 (300 : Int)) fun x31 =>
        some ((IntKind.wrap .i64 (x31 - (100 : Int))), ([] : List UInt8), .nil, x10.2)
      else
        bif ((intD ((((((cellsD x2).drop ((x1).toNat * 4))).drop 2)).getD 0 .nil)) == (3 : Int)) then
          some (x10.1, ([] : List UInt8), .nil, x10.2)
        else
          bif ((intD ((((((cellsD x2).drop ((x1).toNat * 4))).drop 2)).getD 0 .nil)) == (4 : Int)) then
            bd (F50 n x10.1 (9 : Int)) fun x41 =>
            gd (0 ≤ (0 : Int) ∧ (0 : Int) ≤ x41 ∧ x41 ≤ (([97, 98, 99, 97, 98, 99, 97, 98, 99, 97, 98, 99] : List UInt8)).length) <|
            some ((0 : Int), (((([97, 98, 99, 97, 98, 99, 97, 98, 99, 97, 98, 99] : List UInt8)).drop ((0 : Int)).toNat).take ((x41).toNat - ((0 : Int)).toNat)), .nil, x10.2)
          else
            F33_L1 x2 x3 x1 n kq4 x5 (F33 n) n (IntKind.wrap .i64 (x1 + (1 : Int))) x10.2 0 ([] : List PD)

set_option maxHeartbeats 4000000 in
theorem f33_calls : ∀ {n : Nat} {x1 : Int} {x2 : PD} {x3 : PD} {kq4 : Bool} {x5 : PD} {x6 : Int} {r : Int × (List UInt8) × PD × Int} (H : F33 n x1 x2 x3 kq4 x5 x6 = some r) (N : Nat) (hp : HP) {id1 w1 : Nat} (hid1 : id1 < N) (ho1 : hp id1 = (w1, some (.cells 92 [(PV.d true x2), (PV.d true x3), (dk kq4 x5), (PV.d true (.int .i64 x6))]))), ACalls Try.prog 33 N [(PV.ptr id1 w1 0), (PV.d true (.int .i64 x1))] hp fun r' hp' => r' = (PV.d true (.agg [(.int .i64 r.1), (.str r.2.1), r.2.2.1])) ∧ hp' = (upd hp id1 (w1, some (.cells 92 [(PV.d true x2), (PV.d true x3), (dk kq4 x5), (PV.d true (.int .i64 r.2.2.2))]))) := by
  intro n
  induction n with
  | zero => intro x1 x2 x3 kq4 x5 x6 r H; cases H
  | succ n ih =>
    intro x1 x2 x3 kq4 x5 x6 r H N hp id1 w1 hid1 ho1
    rw [F33] at H
    refine acalls_body Try.func33 rfl rfl Try.ntmps33 (by simp) fun X hX => ?_
    refine awp_start (l := [(0, (PV.ptr id1 w1 0)), (1, (PV.d true (.int .i64 x1)))]) (N := N) ⟨rfl, rfl, trivial⟩ ?_
    have hlow0 : ∀ id, id < N → id ≠ id1 → hp id = hp id := fun _ _ _ => rfl
    refine awp_regionL fun y7 hy7 => ?_
    refine goL_n (d' := 4) (st_alloc ze_65) rfl fun v8 => ?_
    subst hy7
    refine awp_regionL fun y9 hy9 => ?_
    refine goL_s (st_mv (v := (PV.ptr id1 w1 0)) rfl) rfl ?_
    obtain ⟨x10, c11, H⟩ := bd_out H
    refine goL_cg (U := Unit) (args' := [(PV.ptr id1 w1 0)]) (r := fun _ => (PV.d true (.int .i64 x10.1))) (h' := fun _ => (upd (hpL N hp _) id1 (w1, some (.cells 92 [(PV.d true x2), (PV.d true x3), (dk kq4 x5), (PV.d true (.int .i64 x10.2))])))) rfl rfl ⟨Wk.refl, trivial⟩ enter_49 rfl (ACalls.mono (f49_calls c11 (N + 105) _ (Nat.lt_of_lt_of_le hid1 (Nat.le_add_right _ _)) (hpL_low' hid1 ho1)) (fun r' hp' ⟨h1, h2⟩ => ⟨(), h1, h2⟩)) fun _ => ?_
    refine goL_hp (by rw [hpL_updlow _ hid1]) ?_
    obtain ⟨hpx12, qhpx12⟩ : ∃ h, h = (upd hp id1 (w1, some (.cells 92 [(PV.d true x2), (PV.d true x3), (dk kq4 x5), (PV.d true (.int .i64 x10.2))]))) := ⟨_, rfl⟩
    rw [← qhpx12]
    have hc13 : hpx12 id1 = (w1, some (.cells 92 [(PV.d true x2), (PV.d true x3), (dk kq4 x5), (PV.d true (.int .i64 x10.2))])) := (congrFun qhpx12 id1).trans (upd_eq _ _ _)
    have hlow14 : ∀ id, id < N → id ≠ id1 → hpx12 id = hp id := fun id hid nid1 => (congrFun qhpx12 id).trans ((upd_ne _ _ nid1).trans (hlow0 id hid nid1))
    clear qhpx12
    refine goL_s (st_as (v := (PV.d true (.int .i64 x10.1))) rfl) rfl ?_
    subst hy9
    refine awp_hide fun y15 hy15 => ?_
    refine awp_regionL fun y16 hy16 => ?_
    refine goL_s (st_mv (v := (PV.ptr id1 w1 0)) rfl) rfl ?_
    refine goL_s (st_nil_p rfl (hpL_low' hid1 hc13)) rfl ?_
    refine goL_s (st_fa_p (o' := 0) fi_92_0 (by decide) rfl (hpL_low' hid1 hc13) rfl) rfl ?_
    refine goL_s (st_ld_p (c := (PV.d true x2)) ty_26 rfl (hpL_low' hid1 hc13) rfl) rfl ?_
    refine goL_s (st_mv (v := (PV.d true (.int .i64 x1))) rfl) rfl ?_
    obtain ⟨g17, H⟩ := gd_out H
    refine goL_s (st_ia_d el_26 sz_61 (by decide) (y := x2) rfl rfl g17) rfl ?_
    obtain ⟨g18, H⟩ := gd_out H
    refine goL_s (st_fa_lp fi_61_2 (by decide) rfl g18) rfl ?_
    obtain ⟨⟨g19, g20⟩, H⟩ := gd_out H
    refine goL_s (st_ld_lp ty_3 rfl g19 (cI g20)) rfl ?_
    subst hy16
    refine awp_block ?_
    refine awp_regionL fun y21 hy21 => ?_
    refine goL_s (st_bin rfl rfl rfl rfl trivial) rfl ?_
    refine goL_s (st_as (v := (PV.d true (.bool ((intD ((((((cellsD x2).drop ((x1).toNat * 4))).drop 2)).getD 0 .nil)) == (1 : Int))))) rfl) rfl ?_
    subst hy21
    refine awp_ifL (b := ((intD ((((((cellsD x2).drop ((x1).toNat * 4))).drop 2)).getD 0 .nil)) == (1 : Int))) rfl (fun y23 hy23 hb22 => ?_) (fun y23 hy23 hb22 => ?_)
    · replace H := cond_t H hb22
      subst hy23
      refine awp_regionL fun y24 hy24 => ?_
      refine goL_s (st_mv (v := (PV.d true (.int .i64 x10.1))) rfl) rfl ?_
      obtain ⟨x25, c26, H⟩ := bd_out H
      refine goL_cp (args' := [(PV.d true (.int .i64 x10.1)), (PV.d true (.int .i64 (2 : Int)))]) (r := (PV.d true (.int .i64 x25))) rfl rfl ⟨Wk.refl, ⟨Wk.refl, trivial⟩⟩ enter_50 rfl (f50_calls c26 (N + 105) _) ?_
      refine goL_s (st_buildR (parts := [(0, (PV.d true (.int .i64 x25)))]) (cells := [(PV.d true (.int .i64 x25)), (PV.d true (.str ([] : List UInt8))), (PV.d true .nil)]) ze_65 sr_65 rfl (FillR.cons (cells' := [(PV.d true (.int .i64 x25)), (PV.d true (.str ([] : List UInt8))), (PV.d true .nil)]) rfl rfl rfl (Nat.le_of_ble_eq_true rfl) ⟨rfl, trivial⟩ rfl FillR.nil)) rfl ?_
      refine goL_o0 (st_sto (x := (PV.agg [(PV.d true (.int .i64 x25)), (PV.d true (.str ([] : List UInt8))), (PV.d true .nil)])) (cs := [(PV.d true (.int .i64 x25)), (PV.d true (.str ([] : List UInt8))), (PV.d true .nil)]) (row' := [(PV.d true (.int .i64 x25)), (PV.d true (.str ([] : List UInt8))), (PV.d true .nil)]) ty_65 rfl hpL_hit rfl rfl rfl (Nat.le_of_ble_eq_true rfl) ⟨rfl, rfl, rfl, trivial⟩ rfl) rfl ?_
      subst hy24
      refine awp_ret ?_
      refine blockA_r ?_
      refine thenA_r ?_
      obtain rfl := Option.some.inj H
      refine ret1 (res_c (ds := [(.int .i64 x25), (.str ([] : List UInt8)), .nil]) ty_65 rfl hpL_hit rfl rfl) (hp2 := (upd hp id1 (w1, some (.cells 92 [(PV.d true x2), (PV.d true x3), (dk kq4 x5), (PV.d true (.int .i64 x10.2))])))) ?_ ?_ (lowOK_also lowOK_same ⟨trivial, trivial, loc_dk, trivial, trivial⟩) ⟨rfl, rfl⟩ (.inr rfl)
      · intro id hid
        by_cases nid1 : id = id1
        · rw [nid1]; exact (hpL_low hid1).trans (hc13.trans (Eq.symm (upd_eq _ _ _)))
        exact (hpL_low hid).trans ((hlow14 id hid nid1).trans (Eq.symm ((upd_ne _ _ nid1).trans (rfl))))
      · intro id hid; exact (upd_ne _ _ (fun e => absurd hid1 (by omega))).trans (rfl)
    · replace H := cond_f H hb22
      subst hy23
      refine awp_regionL fun y27 hy27 => ?_
      refine goL_s (st_bin rfl rfl rfl rfl trivial) rfl ?_
      refine goL_s (st_as (v := (PV.d true (.bool ((intD ((((((cellsD x2).drop ((x1).toNat * 4))).drop 2)).getD 0 .nil)) == (2 : Int))))) rfl) rfl ?_
      subst hy27
      refine awp_ifL (b := ((intD ((((((cellsD x2).drop ((x1).toNat * 4))).drop 2)).getD 0 .nil)) == (2 : Int))) rfl (fun y29 hy29 hb28 => ?_) (fun y29 hy29 hb28 => ?_)
      · replace H := cond_t H hb28
        subst hy29
        refine awp_regionL fun y30 hy30 => ?_
        refine goL_s (st_mv (v := (PV.d true (.int .i64 x10.1))) rfl) rfl ?_
        obtain ⟨x31, c32, H⟩ := bd_out H
        refine goL_cp (args' := [(PV.d true (.int .i64 x10.1)), (PV.d true (.int .i64 (300 : Int)))]) (r := (PV.d true (.int .i64 x31))) rfl rfl ⟨Wk.refl, ⟨Wk.refl, trivial⟩⟩ enter_50 rfl (f50_calls c32 (N + 105) _) ?_
        refine goL_s (st_bin rfl rfl rfl rfl trivial) rfl ?_
        refine goL_s (st_buildR (parts := [(0, (PV.d true (.int .i64 (IntKind.wrap .i64 (x31 - (100 : Int))))))]) (cells := [(PV.d true (.int .i64 (IntKind.wrap .i64 (x31 - (100 : Int))))), (PV.d true (.str ([] : List UInt8))), (PV.d true .nil)]) ze_65 sr_65 rfl (FillR.cons (cells' := [(PV.d true (.int .i64 (IntKind.wrap .i64 (x31 - (100 : Int))))), (PV.d true (.str ([] : List UInt8))), (PV.d true .nil)]) rfl rfl rfl (Nat.le_of_ble_eq_true rfl) ⟨rfl, trivial⟩ rfl FillR.nil)) rfl ?_
        refine goL_o0 (st_sto (x := (PV.agg [(PV.d true (.int .i64 (IntKind.wrap .i64 (x31 - (100 : Int))))), (PV.d true (.str ([] : List UInt8))), (PV.d true .nil)])) (cs := [(PV.d true (.int .i64 (IntKind.wrap .i64 (x31 - (100 : Int))))), (PV.d true (.str ([] : List UInt8))), (PV.d true .nil)]) (row' := [(PV.d true (.int .i64 (IntKind.wrap .i64 (x31 - (100 : Int))))), (PV.d true (.str ([] : List UInt8))), (PV.d true .nil)]) ty_65 rfl hpL_hit rfl rfl rfl (Nat.le_of_ble_eq_true rfl) ⟨rfl, rfl, rfl, trivial⟩ rfl) rfl ?_
        subst hy30
        refine awp_ret ?_
        refine blockA_r ?_
        refine thenA_r ?_
        obtain rfl := Option.some.inj H
        refine ret1 (res_c (ds := [(.int .i64 (IntKind.wrap .i64 (x31 - (100 : Int)))), (.str ([] : List UInt8)), .nil]) ty_65 rfl hpL_hit rfl rfl) (hp2 := (upd hp id1 (w1, some (.cells 92 [(PV.d true x2), (PV.d true x3), (dk kq4 x5), (PV.d true (.int .i64 x10.2))])))) ?_ ?_ (lowOK_also lowOK_same ⟨trivial, trivial, loc_dk, trivial, trivial⟩) ⟨rfl, rfl⟩ (.inr rfl)
        · intro id hid
          by_cases nid1 : id = id1
          · rw [nid1]; exact (hpL_low hid1).trans (hc13.trans (Eq.symm (upd_eq _ _ _)))
          exact (hpL_low hid).trans ((hlow14 id hid nid1).trans (Eq.symm ((upd_ne _ _ nid1).trans (rfl))))
        · intro id hid; exact (upd_ne _ _ (fun e => absurd hid1 (by omega))).trans (rfl)
      · replace H := cond_f H hb28
        subst hy29
        refine awp_regionL fun y33 hy33 => ?_
        refine goL_s (st_bin rfl rfl rfl rfl trivial) rfl ?_
        refine goL_s (st_as (v := (PV.d true (.bool ((intD ((((((cellsD x2).drop ((x1).toNat * 4))).drop 2)).getD 0 .nil)) == (3 : Int))))) rfl) rfl ?_
        subst hy33
        refine awp_ifL (b := ((intD ((((((cellsD x2).drop ((x1).toNat * 4))).drop 2)).getD 0 .nil)) == (3 : Int))) rfl (fun y35 hy35 hb34 => ?_) (fun y35 hy35 hb34 => ?_)
        · replace H := cond_t H hb34
          subst hy35
          refine awp_regionL fun y36 hy36 => ?_
          refine goL_s (st_mv (v := (PV.d true (.int .i64 x10.1))) rfl) rfl ?_
          refine goL_s (st_buildR (parts := [(0, (PV.d true (.int .i64 x10.1)))]) (cells := [(PV.d true (.int .i64 x10.1)), (PV.d true (.str ([] : List UInt8))), (PV.d true .nil)]) ze_65 sr_65 rfl (FillR.cons (cells' := [(PV.d true (.int .i64 x10.1)), (PV.d true (.str ([] : List UInt8))), (PV.d true .nil)]) rfl rfl rfl (Nat.le_of_ble_eq_true rfl) ⟨rfl, trivial⟩ rfl FillR.nil)) rfl ?_
          refine goL_o0 (st_sto (x := (PV.agg [(PV.d true (.int .i64 x10.1)), (PV.d true (.str ([] : List UInt8))), (PV.d true .nil)])) (cs := [(PV.d true (.int .i64 x10.1)), (PV.d true (.str ([] : List UInt8))), (PV.d true .nil)]) (row' := [(PV.d true (.int .i64 x10.1)), (PV.d true (.str ([] : List UInt8))), (PV.d true .nil)]) ty_65 rfl hpL_hit rfl rfl rfl (Nat.le_of_ble_eq_true rfl) ⟨rfl, rfl, rfl, trivial⟩ rfl) rfl ?_
          subst hy36
          refine awp_ret ?_
          refine blockA_r ?_
          refine thenA_r ?_
          obtain rfl := Option.some.inj H
          refine ret1 (res_c (ds := [(.int .i64 x10.1), (.str ([] : List UInt8)), .nil]) ty_65 rfl hpL_hit rfl rfl) (hp2 := (upd hp id1 (w1, some (.cells 92 [(PV.d true x2), (PV.d true x3), (dk kq4 x5), (PV.d true (.int .i64 x10.2))])))) ?_ ?_ (lowOK_also lowOK_same ⟨trivial, trivial, loc_dk, trivial, trivial⟩) ⟨rfl, rfl⟩ (.inr rfl)
          · intro id hid
            by_cases nid1 : id = id1
            · rw [nid1]; exact (hpL_low hid1).trans (hc13.trans (Eq.symm (upd_eq _ _ _)))
            exact (hpL_low hid).trans ((hlow14 id hid nid1).trans (Eq.symm ((upd_ne _ _ nid1).trans (rfl))))
          · intro id hid; exact (upd_ne _ _ (fun e => absurd hid1 (by omega))).trans (rfl)
        · replace H := cond_f H hb34
          subst hy35
          refine awp_regionL fun y37 hy37 => ?_
          refine goL_s (st_bin rfl rfl rfl rfl trivial) rfl ?_
          refine goL_s (st_as (v := (PV.d true (.bool ((intD ((((((cellsD x2).drop ((x1).toNat * 4))).drop 2)).getD 0 .nil)) == (4 : Int))))) rfl) rfl ?_
          subst hy37
          refine awp_ifL (b := ((intD ((((((cellsD x2).drop ((x1).toNat * 4))).drop 2)).getD 0 .nil)) == (4 : Int))) rfl (fun y39 hy39 hb38 => ?_) (fun y39 hy39 hb38 => ?_)
          · replace H := cond_t H hb38
            subst hy39
            refine awp_regionL fun y40 hy40 => ?_
            refine goL_s (st_mv (v := (PV.d true (.int .i64 x10.1))) rfl) rfl ?_
            obtain ⟨x41, c42, H⟩ := bd_out H
            refine goL_cp (args' := [(PV.d true (.int .i64 x10.1)), (PV.d true (.int .i64 (9 : Int)))]) (r := (PV.d true (.int .i64 x41))) rfl rfl ⟨Wk.refl, ⟨Wk.refl, trivial⟩⟩ enter_50 rfl (f50_calls c42 (N + 105) _) ?_
            obtain ⟨g43, H⟩ := gd_out H
            refine goL_s (st_sl_s (l := (0 : Int)) (h := x41) st_9 rfl rfl rfl g43) rfl ?_
            refine goL_s (st_buildR (parts := [(1, (PV.d true (.str (((([97, 98, 99, 97, 98, 99, 97, 98, 99, 97, 98, 99] : List UInt8)).drop ((0 : Int)).toNat).take ((x41).toNat - ((0 : Int)).toNat)))))]) (cells := [(PV.d true (.int .i64 (0 : Int))), (PV.d true (.str (((([97, 98, 99, 97, 98, 99, 97, 98, 99, 97, 98, 99] : List UInt8)).drop ((0 : Int)).toNat).take ((x41).toNat - ((0 : Int)).toNat)))), (PV.d true .nil)]) ze_65 sr_65 rfl (FillR.cons (cells' := [(PV.d true (.int .i64 (0 : Int))), (PV.d true (.str (((([97, 98, 99, 97, 98, 99, 97, 98, 99, 97, 98, 99] : List UInt8)).drop ((0 : Int)).toNat).take ((x41).toNat - ((0 : Int)).toNat)))), (PV.d true .nil)]) rfl rfl rfl (Nat.le_of_ble_eq_true rfl) ⟨rfl, trivial⟩ rfl FillR.nil)) rfl ?_
            refine goL_o0 (st_sto (x := (PV.agg [(PV.d true (.int .i64 (0 : Int))), (PV.d true (.str (((([97, 98, 99, 97, 98, 99, 97, 98, 99, 97, 98, 99] : List UInt8)).drop ((0 : Int)).toNat).take ((x41).toNat - ((0 : Int)).toNat)))), (PV.d true .nil)])) (cs := [(PV.d true (.int .i64 (0 : Int))), (PV.d true (.str (((([97, 98, 99, 97, 98, 99, 97, 98, 99, 97, 98, 99] : List UInt8)).drop ((0 : Int)).toNat).take ((x41).toNat - ((0 : Int)).toNat)))), (PV.d true .nil)]) (row' := [(PV.d true (.int .i64 (0 : Int))), (PV.d true (.str (((([97, 98, 99, 97, 98, 99, 97, 98, 99, 97, 98, 99] : List UInt8)).drop ((0 : Int)).toNat).take ((x41).toNat - ((0 : Int)).toNat)))), (PV.d true .nil)]) ty_65 rfl hpL_hit rfl rfl rfl (Nat.le_of_ble_eq_true rfl) ⟨rfl, rfl, rfl, trivial⟩ rfl) rfl ?_
            subst hy40
            refine awp_ret ?_
            refine blockA_r ?_
            refine thenA_r ?_
            obtain rfl := Option.some.inj H
            refine ret1 (res_c (ds := [(.int .i64 (0 : Int)), (.str (((([97, 98, 99, 97, 98, 99, 97, 98, 99, 97, 98, 99] : List UInt8)).drop ((0 : Int)).toNat).take ((x41).toNat - ((0 : Int)).toNat))), .nil]) ty_65 rfl hpL_hit rfl rfl) (hp2 := (upd hp id1 (w1, some (.cells 92 [(PV.d true x2), (PV.d true x3), (dk kq4 x5), (PV.d true (.int .i64 x10.2))])))) ?_ ?_ (lowOK_also lowOK_same ⟨trivial, trivial, loc_dk, trivial, trivial⟩) ⟨rfl, rfl⟩ (.inr rfl)
            · intro id hid
              by_cases nid1 : id = id1
              · rw [nid1]; exact (hpL_low hid1).trans (hc13.trans (Eq.symm (upd_eq _ _ _)))
              exact (hpL_low hid).trans ((hlow14 id hid nid1).trans (Eq.symm ((upd_ne _ _ nid1).trans (rfl))))
            · intro id hid; exact (upd_ne _ _ (fun e => absurd hid1 (by omega))).trans (rfl)
          · replace H := cond_f H hb38
            subst hy39
            refine awp_skip ?_
            refine blockA_n ?_
            refine thenA_n ?_
            subst hy15
            refine awp_regionL fun y44 hy44 => ?_
            refine goL_s (st_buildR (parts := []) (cells := [(PV.d true (.int .i64 (0 : Int))), (PV.d true (.str ([] : List UInt8))), (PV.d true .nil)]) ze_65 sr_65 rfl FillR.nil) rfl ?_
            refine goL_n (d' := 6) (st_alloc ze_65) rfl fun v45 => ?_
            refine goL_o0 (st_sto (x := (PV.agg [(PV.d true (.int .i64 (0 : Int))), (PV.d true (.str ([] : List UInt8))), (PV.d true .nil)])) (cs := [(PV.d true (.int .i64 (0 : Int))), (PV.d true (.str ([] : List UInt8))), (PV.d true .nil)]) (row' := [(PV.d true (.int .i64 (0 : Int))), (PV.d true (.str ([] : List UInt8))), (PV.d true .nil)]) ty_65 rfl hpL_hit rfl rfl rfl (Nat.le_of_ble_eq_true rfl) ⟨rfl, rfl, rfl, trivial⟩ rfl) rfl ?_
            subst hy44
            refine awp_hide fun y46 hy46 => ?_
            refine awp_regionL fun y47 hy47 => ?_
            refine goL_s (st_mv (v := (PV.d true (.int .i64 x1))) rfl) rfl ?_
            refine goL_s (st_bin rfl rfl rfl rfl trivial) rfl ?_
            refine goL_s (st_as (v := (PV.d true (.int .i64 (IntKind.wrap .i64 (x1 + (1 : Int)))))) rfl) rfl ?_
            subst hy47
            refine awp_block ?_
            refine awp_loop (J33_1 (mkC 105 N Try.prog hp X) N hp id1 w1 x2 x3 x1 n kq4 x5 (F33 n) r) n ?_ ?_
            · unfold J33_1
              exact ⟨_, v8, v45, _, (IntKind.wrap .i64 (x1 + (1 : Int))), x10.2, 0, ([] : List PD), ((Gh.virtC (d := 102) (i := 2) 28 (Nat.add_lt_add_left (show 102 < 105 by decide) N) hpL_hit rfl rfl rfl).trans (Gh.join ⟨rfl, rfl, rfl, rfl, rfl, trivial⟩ ⟨(hpL_miss rfl (hpL_miss rfl (hpL_miss rfl (hpL_miss rfl hpL_hit)))), hpL_hit, (hpL_miss rfl hpL_hit), trivial⟩)), fun id hid nid1 => (hpL_low hid).trans (hlow14 id hid nid1), (hpL_low hid1).trans hc13, H⟩
            · intro m1 s hJ
              unfold J33_1 at hJ
              obtain ⟨hpx64, v52, v53, v55, x50, x51, x54, x56, hG66, hlow65, hc67, H⟩ := hJ
              cases m1 with
              | zero => cases H
              | succ m1 =>
                rw [F33_L1] at H
                refine awp_gh hG66 ?_
                clear hG66
                refine awp_hide fun y68 hy68 => ?_
                refine awp_regionL fun y69 hy69 => ?_
                refine goL_s (st_mv (v := (PV.d true (.int .i64 x50))) rfl) rfl ?_
                refine goL_s (st_mv (v := (PV.ptr id1 w1 0)) rfl) rfl ?_
                refine goL_s (st_nil_p rfl (hpL_low' hid1 hc67)) rfl ?_
                refine goL_s (st_fa_p (o' := 0) fi_92_0 (by decide) rfl (hpL_low' hid1 hc67) rfl) rfl ?_
                refine goL_s (st_ld_p (c := (PV.d true x2)) ty_26 rfl (hpL_low' hid1 hc67) rfl) rfl ?_
                obtain ⟨g70, H⟩ := gd_out H
                refine goL_s (st_len_d (id := 0) sl_26 rfl g70) rfl ?_
                refine goL_s (st_bin rfl rfl rfl rfl trivial) rfl ?_
                subst hy69
                refine awp_ifL (b := (decide (x50 < (lenN x2 : Int)))) rfl (fun y72 hy72 hb71 => ?_) (fun y72 hy72 hb71 => ?_)
                · replace H := cond_t H hb71
                  subst hy72
                  refine awp_skip ?_
                  refine thenA_n ?_
                  subst hy68
                  refine awp_cut (J33_2 (mkC 105 N Try.prog hp X) N hp id1 w1 (F33_L1 x2 x3 x1 n kq4 x5 (F33 n) m1) x50 x1 x2 x3 kq4 x5 r) ?_ ?_
                  · refine awp_block ?_
                    refine awp_hide fun y83 hy83 => ?_
                    refine awp_regionL fun y84 hy84 => ?_
                    refine goL_s (st_mv (v := (PV.ptr id1 w1 0)) rfl) rfl ?_
                    refine goL_s (st_nil_p rfl (hpL_low' hid1 hc67)) rfl ?_
                    refine goL_s (st_fa_p (o' := 1) fi_92_1 (by decide) rfl (hpL_low' hid1 hc67) rfl) rfl ?_
                    refine goL_s (st_ld_p (c := (PV.d true x3)) ty_22 rfl (hpL_low' hid1 hc67) rfl) rfl ?_
                    refine goL_s (st_mv (v := (PV.d true (.int .i64 x50))) rfl) rfl ?_
                    obtain ⟨g85, H⟩ := gd_out H
                    refine goL_s (st_ia_d el_22 sz_3 (by decide) (y := x3) rfl rfl g85) rfl ?_
                    obtain ⟨⟨g86, g87⟩, H⟩ := gd_out H
                    refine goL_s (st_ld_lp ty_3 rfl g86 (cI g87)) rfl ?_
                    refine goL_s (st_mv (v := (PV.d true (.int .i64 x1))) rfl) rfl ?_
                    refine goL_s (st_bin rfl rfl rfl rfl trivial) rfl ?_
                    subst hy84
                    refine awp_ifL (b := ((intD ((((cellsD x3).drop ((x50).toNat * 1))).getD 0 .nil)) != x1)) rfl (fun y89 hy89 hb88 => ?_) (fun y89 hy89 hb88 => ?_)
                    · replace H := cond_t H hb88
                      subst hy89
                      refine awp_exit ?_
                      refine thenA_e ?_
                      refine blockA_h ?_
                      refine thenA_n ?_
                      unfold J33_2
                      exact ⟨_, v52, v53, v55, x51, x54, x56, Gh.join ⟨rfl, rfl, rfl, rfl, rfl, trivial⟩ ⟨hpL_hit, (hpL_miss rfl hpL_hit), (hpL_miss rfl (hpL_miss rfl hpL_hit)), trivial⟩, fun id hid nid1 => (hpL_low hid).trans (hlow65 id hid nid1), (hpL_low hid1).trans hc67, H⟩
                    · replace H := cond_f H hb88
                      subst hy89
                      refine awp_skip ?_
                      refine thenA_n ?_
                      subst hy83
                      refine awp_regionL fun y90 hy90 => ?_
                      refine goL_s (st_as (v := (PV.d true (.int .i64 (1 : Int)))) rfl) rfl ?_
                      subst hy90
                      refine awp_cut (J33_3 (mkC 105 N Try.prog hp X) N hp id1 w1 x2 x50 n x3 kq4 x5 (F33 n) x54 x56 (F33_L1 x2 x3 x1 n kq4 x5 (F33 n) m1) x1 r) ?_ ?_
                      · refine awp_regionL fun y171 hy171 => ?_
                        refine goL_s (st_mv (v := (PV.ptr id1 w1 0)) rfl) rfl ?_
                        refine goL_s (st_nil_p rfl (hpL_low' hid1 hc67)) rfl ?_
                        refine goL_s (st_fa_p (o' := 0) fi_92_0 (by decide) rfl (hpL_low' hid1 hc67) rfl) rfl ?_
                        refine goL_s (st_ld_p (c := (PV.d true x2)) ty_26 rfl (hpL_low' hid1 hc67) rfl) rfl ?_
                        refine goL_s (st_mv (v := (PV.d true (.int .i64 x50))) rfl) rfl ?_
                        obtain ⟨g172, H⟩ := gd_out H
                        refine goL_s (st_ia_d el_26 sz_61 (by decide) (y := x2) rfl rfl g172) rfl ?_
                        obtain ⟨g173, H⟩ := gd_out H
                        refine goL_s (st_fa_lp fi_61_1 (by decide) rfl g173) rfl ?_
                        obtain ⟨⟨g174, g175⟩, H⟩ := gd_out H
                        refine goL_s (st_ld_lp ty_3 rfl g174 (cI g175)) rfl ?_
                        refine goL_s (st_bin rfl rfl rfl rfl trivial) rfl ?_
                        subst hy171
                        refine awp_ifL (b := ((intD ((((((cellsD x2).drop ((x50).toNat * 4))).drop 1)).getD 0 .nil)) == (1 : Int))) rfl (fun y177 hy177 hb176 => ?_) (fun y177 hy177 hb176 => ?_)
                        · replace H := cond_t H hb176
                          subst hy177
                          refine awp_regionL1 ?_
                          refine goL_s (st_mv (v := (PV.ptr id1 w1 0)) rfl) rfl ?_
                          obtain ⟨x178, c179, H⟩ := bd_out H
                          refine goL_cg (U := Unit) (args' := [(PV.ptr id1 w1 0)]) (r := fun _ => (PV.d true (.int .i64 x178.1))) (h' := fun _ => (upd (hpL N hpx64 _) id1 (w1, some (.cells 92 [(PV.d true x2), (PV.d true x3), (dk kq4 x5), (PV.d true (.int .i64 x178.2))])))) rfl rfl ⟨Wk.refl, trivial⟩ enter_49 rfl (ACalls.mono (f49_calls c179 (N + 105) _ (Nat.lt_of_lt_of_le hid1 (Nat.le_add_right _ _)) (hpL_low' hid1 hc67)) (fun r' hp' ⟨h1, h2⟩ => ⟨(), h1, h2⟩)) fun _ => ?_
                          refine goL_hp (by rw [hpL_updlow _ hid1]) ?_
                          obtain ⟨hpx180, qhpx180⟩ : ∃ h, h = (upd hpx64 id1 (w1, some (.cells 92 [(PV.d true x2), (PV.d true x3), (dk kq4 x5), (PV.d true (.int .i64 x178.2))]))) := ⟨_, rfl⟩
                          rw [← qhpx180]
                          have hc181 : hpx180 id1 = (w1, some (.cells 92 [(PV.d true x2), (PV.d true x3), (dk kq4 x5), (PV.d true (.int .i64 x178.2))])) := (congrFun qhpx180 id1).trans (upd_eq _ _ _)
                          have hlow182 : ∀ id, id < N → id ≠ id1 → hpx180 id = hp id := fun id hid nid1 => (congrFun qhpx180 id).trans ((upd_ne _ _ nid1).trans (hlow65 id hid nid1))
                          clear qhpx180
                          obtain ⟨x183, c184, H⟩ := bd_out H
                          refine goL_cp (args' := [(PV.d true (.int .i64 x178.1)), (PV.d true (.int .i64 (2 : Int)))]) (r := (PV.d true (.int .i64 x183))) rfl rfl ⟨Wk.refl, ⟨Wk.refl, trivial⟩⟩ enter_50 rfl (f50_calls c184 (N + 105) _) ?_
                          refine goL_s (st_as (v := (PV.d true (.int .i64 x183))) rfl) rfl ?_
                          refine thenA_n ?_
                          unfold J33_3
                          exact ⟨_, v52, v53, v55, x183, x178.2, Gh.join ⟨rfl, rfl, rfl, rfl, rfl, rfl, trivial⟩ ⟨hpL_hit, (hpL_miss rfl hpL_hit), (hpL_miss rfl (hpL_miss rfl hpL_hit)), trivial⟩, fun id hid nid1 => (hpL_low hid).trans (hlow182 id hid nid1), (hpL_low hid1).trans hc181, H⟩
                        · replace H := cond_f H hb176
                          subst hy177
                          refine awp_skip ?_
                          refine thenA_n ?_
                          unfold J33_3
                          exact ⟨_, v52, v53, v55, (1 : Int), x51, Gh.join ⟨rfl, rfl, rfl, rfl, rfl, rfl, trivial⟩ ⟨hpL_hit, (hpL_miss rfl hpL_hit), (hpL_miss rfl (hpL_miss rfl hpL_hit)), trivial⟩, fun id hid nid1 => (hpL_low hid).trans (hlow65 id hid nid1), (hpL_low hid1).trans hc67, H⟩
                      · intro s hJ
                        unfold J33_3 at hJ
                        obtain ⟨hpx96, v93, v94, v95, x91, x92, hG98, hlow97, hc99, H⟩ := hJ
                        unfold F33_K3 at H
                        refine awp_gh hG98 ?_
                        clear hG98
                        refine awp_cut (J33_4 (mkC 105 N Try.prog hp X) N hp id1 w1 (F33 n) x50 x2 x3 kq4 x5 x54 x56 (F33_L1 x2 x3 x1 n kq4 x5 (F33 n) m1) n x1 r) ?_ ?_
                        · refine awp_regionL fun y157 hy157 => ?_
                          refine goL_s (st_mv (v := (PV.ptr id1 w1 0)) rfl) rfl ?_
                          refine goL_s (st_nil_p rfl (hpL_low' hid1 hc99)) rfl ?_
                          refine goL_s (st_fa_p (o' := 0) fi_92_0 (by decide) rfl (hpL_low' hid1 hc99) rfl) rfl ?_
                          refine goL_s (st_ld_p (c := (PV.d true x2)) ty_26 rfl (hpL_low' hid1 hc99) rfl) rfl ?_
                          refine goL_s (st_mv (v := (PV.d true (.int .i64 x50))) rfl) rfl ?_
                          obtain ⟨g158, H⟩ := gd_out H
                          refine goL_s (st_ia_d el_26 sz_61 (by decide) (y := x2) rfl rfl g158) rfl ?_
                          obtain ⟨g159, H⟩ := gd_out H
                          refine goL_s (st_fa_lp fi_61_1 (by decide) rfl g159) rfl ?_
                          obtain ⟨⟨g160, g161⟩, H⟩ := gd_out H
                          refine goL_s (st_ld_lp ty_3 rfl g160 (cI g161)) rfl ?_
                          refine goL_s (st_bin rfl rfl rfl rfl trivial) rfl ?_
                          subst hy157
                          refine awp_ifL (b := ((intD ((((((cellsD x2).drop ((x50).toNat * 4))).drop 1)).getD 0 .nil)) == (2 : Int))) rfl (fun y163 hy163 hb162 => ?_) (fun y163 hy163 hb162 => ?_)
                          · replace H := cond_t H hb162
                            subst hy163
                            refine awp_regionL1 ?_
                            refine goL_s (st_mv (v := (PV.ptr id1 w1 0)) rfl) rfl ?_
                            obtain ⟨x164, c165, H⟩ := bd_out H
                            refine goL_cg (U := Unit) (args' := [(PV.ptr id1 w1 0)]) (r := fun _ => (PV.d true (.int .i64 x164.1))) (h' := fun _ => (upd (hpL N hpx96 _) id1 (w1, some (.cells 92 [(PV.d true x2), (PV.d true x3), (dk kq4 x5), (PV.d true (.int .i64 x164.2))])))) rfl rfl ⟨Wk.refl, trivial⟩ enter_49 rfl (ACalls.mono (f49_calls c165 (N + 105) _ (Nat.lt_of_lt_of_le hid1 (Nat.le_add_right _ _)) (hpL_low' hid1 hc99)) (fun r' hp' ⟨h1, h2⟩ => ⟨(), h1, h2⟩)) fun _ => ?_
                            refine goL_hp (by rw [hpL_updlow _ hid1]) ?_
                            obtain ⟨hpx166, qhpx166⟩ : ∃ h, h = (upd hpx96 id1 (w1, some (.cells 92 [(PV.d true x2), (PV.d true x3), (dk kq4 x5), (PV.d true (.int .i64 x164.2))]))) := ⟨_, rfl⟩
                            rw [← qhpx166]
                            have hc167 : hpx166 id1 = (w1, some (.cells 92 [(PV.d true x2), (PV.d true x3), (dk kq4 x5), (PV.d true (.int .i64 x164.2))])) := (congrFun qhpx166 id1).trans (upd_eq _ _ _)
                            have hlow168 : ∀ id, id < N → id ≠ id1 → hpx166 id = hp id := fun id hid nid1 => (congrFun qhpx166 id).trans ((upd_ne _ _ nid1).trans (hlow97 id hid nid1))
                            clear qhpx166
                            obtain ⟨x169, c170, H⟩ := bd_out H
                            refine goL_cp (args' := [(PV.d true (.int .i64 x164.1)), (PV.d true (.int .i64 (4 : Int)))]) (r := (PV.d true (.int .i64 x169))) rfl rfl ⟨Wk.refl, ⟨Wk.refl, trivial⟩⟩ enter_50 rfl (f50_calls c170 (N + 105) _) ?_
                            refine goL_s (st_as (v := (PV.d true (.int .i64 x169))) rfl) rfl ?_
                            refine thenA_n ?_
                            unfold J33_4
                            exact ⟨_, v93, v94, v95, x169, x164.2, Gh.join ⟨rfl, rfl, rfl, rfl, rfl, rfl, trivial⟩ ⟨hpL_hit, (hpL_miss rfl hpL_hit), (hpL_miss rfl (hpL_miss rfl hpL_hit)), trivial⟩, fun id hid nid1 => (hpL_low hid).trans (hlow168 id hid nid1), (hpL_low hid1).trans hc167, H⟩
                          · replace H := cond_f H hb162
                            subst hy163
                            refine awp_skip ?_
                            refine thenA_n ?_
                            unfold J33_4
                            exact ⟨_, v93, v94, v95, x91, x92, Gh.join ⟨rfl, rfl, rfl, rfl, rfl, rfl, trivial⟩ ⟨hpL_hit, (hpL_miss rfl hpL_hit), (hpL_miss rfl (hpL_miss rfl hpL_hit)), trivial⟩, fun id hid nid1 => (hpL_low hid).trans (hlow97 id hid nid1), (hpL_low hid1).trans hc99, H⟩
                        · intro s hJ
                          unfold J33_4 at hJ
                          obtain ⟨hpx105, v102, v103, v104, x100, x101, hG107, hlow106, hc108, H⟩ := hJ
                          unfold F33_K4 at H
                          refine awp_gh hG107 ?_
                          clear hG107
                          refine awp_regionL fun y109 hy109 => ?_
                          refine goL_s (st_as (v := (PV.d true .nil)) rfl) rfl ?_
                          subst hy109
                          refine awp_hide fun y110 hy110 => ?_
                          refine awp_regionL fun y111 hy111 => ?_
                          refine goL_s (st_as (v := (PV.d true (.int .i64 (0 : Int)))) rfl) rfl ?_
                          subst hy111
                          refine awp_block ?_
                          refine awp_loop (J33_5 (mkC 105 N Try.prog hp X) N hp id1 w1 x100 (F33 n) x50 x2 x3 kq4 x5 x54 x56 (F33_L1 x2 x3 x1 n kq4 x5 (F33 n) m1) x1 r) n ?_ ?_
                          · unfold J33_5
                            exact ⟨_, v102, v103, _, v104, 0, (0 : Int), x101, ([] : List PD), ((Gh.virtE (t := 9) (d := 97) 65 (Nat.add_lt_add_left (show 97 < 105 by decide) N) rfl).trans (Gh.join ⟨rfl, rfl, rfl, rfl, rfl, rfl, rfl, rfl, trivial⟩ ⟨(hpL_miss rfl hpL_hit), (hpL_miss rfl (hpL_miss rfl hpL_hit)), hpL_hit, (hpL_miss rfl (hpL_miss rfl (hpL_miss rfl hpL_hit))), trivial⟩)), fun id hid nid1 => (hpL_low hid).trans (hlow106 id hid nid1), (hpL_low hid1).trans hc108, H⟩
                          · intro m5 s hJ
                            unfold J33_5 at hJ
                            obtain ⟨hpx131, v118, v119, v120, v122, x115, x116, x117, x121, hG133, hlow132, hc134, H⟩ := hJ
                            cases m5 with
                            | zero => cases H
                            | succ m5 =>
                              rw [F33_L5] at H
                              refine awp_gh hG133 ?_
                              clear hG133
                              refine awp_hide fun y135 hy135 => ?_
                              refine awp_regionL fun y136 hy136 => ?_
                              refine goL_s (st_mv (v := (PV.d true (.int .i64 x116))) rfl) rfl ?_
                              refine goL_s (st_mv (v := (PV.d true (.int .i64 x100))) rfl) rfl ?_
                              refine goL_s (st_bin rfl rfl rfl rfl trivial) rfl ?_
                              subst hy136
                              refine awp_ifL (b := (decide (x116 < x100))) rfl (fun y138 hy138 hb137 => ?_) (fun y138 hy138 hb137 => ?_)
                              · replace H := cond_t H hb137
                                subst hy138
                                refine awp_skip ?_
                                refine thenA_n ?_
                                subst hy135
                                refine awp_hide fun y139 hy139 => ?_
                                refine awp_block ?_
                                refine awp_regionL1 ?_
                                refine goL_s (st_mv (v := (PV.own (N + 97) v120 0 x115)) rfl) rfl ?_
                                refine goL_s (st_mv (v := (PV.ptr id1 w1 0)) rfl) rfl ?_
                                refine goL_s (st_mv (v := (PV.d true (.int .i64 x50))) rfl) rfl ?_
                                obtain ⟨x140, c141, H⟩ := bd_out H
                                refine goL_cg (U := Unit) (args' := [(PV.ptr id1 w1 0), (PV.d true (.int .i64 x50))]) (r := fun _ => (PV.d true (.agg [(.int .i64 x140.1), (.str x140.2.1), x140.2.2.1]))) (h' := fun _ => (upd (hpL N hpx131 _) id1 (w1, some (.cells 92 [(PV.d true x2), (PV.d true x3), (dk kq4 x5), (PV.d true (.int .i64 x140.2.2.2))])))) rfl rfl ⟨Wk.refl, ⟨Wk.refl, trivial⟩⟩ enter_33 rfl (ACalls.mono (ih c141 (N + 105) _ (Nat.lt_of_lt_of_le hid1 (Nat.le_add_right _ _)) (hpL_low' hid1 hc134)) (fun r' hp' ⟨h1, h2⟩ => ⟨(), h1, h2⟩)) fun _ => ?_
                                refine goL_hp (by rw [hpL_updlow _ hid1]) ?_
                                obtain ⟨hpx142, qhpx142⟩ : ∃ h, h = (upd hpx131 id1 (w1, some (.cells 92 [(PV.d true x2), (PV.d true x3), (dk kq4 x5), (PV.d true (.int .i64 x140.2.2.2))]))) := ⟨_, rfl⟩
                                rw [← qhpx142]
                                have hc143 : hpx142 id1 = (w1, some (.cells 92 [(PV.d true x2), (PV.d true x3), (dk kq4 x5), (PV.d true (.int .i64 x140.2.2.2))])) := (congrFun qhpx142 id1).trans (upd_eq _ _ _)
                                have hlow144 : ∀ id, id < N → id ≠ id1 → hpx142 id = hp id := fun id hid nid1 => (congrFun qhpx142 id).trans ((upd_ne _ _ nid1).trans (hlow132 id hid nid1))
                                clear qhpx142
                                obtain ⟨g145, H⟩ := gd_out H
                                refine goL_n (d' := 96) (st_bs1 (x := (PV.d true (.agg [(.int .i64 x140.1), (.str x140.2.1), x140.2.2.1]))) (cs := [(PV.d true (.int .i64 x140.1)), (PV.d true (.str x140.2.1)), (PV.d true x140.2.2.1)]) el_28 ze_65 sz_65 (by decide) rfl (by decide) rfl (cells_ad (by simp only [List.map_cons, List.map_nil, dk_true])) rfl ⟨rfl, rfl, oneSl g145, trivial⟩) rfl fun v146 => ?_
                                obtain ⟨⟨g147, g148⟩, H⟩ := gd_out H
                                refine goL_n (d' := 97) (st_ap_o (row := (x121).map (PV.d true)) (news := (([(.int .i64 x140.1), (.str x140.2.1), x140.2.2.1] : List PD)).map (PV.d true)) (m := 1) (vy := (PV.own (N + 96) v146 0 1)) el_28 ze_65 sz_65 by_65 (by decide) rfl rfl (hpL_miss rfl (hpL_miss rfl (hpL_miss rfl hpL_hit))) rfl (src_own sz_65 hpL_hit rfl) g147 (by rw [List.length_map]; exact g148) (app_D _ _)) rfl fun v149 => ?_
                                refine goL_s (st_as (v := (PV.own (N + 97) v149 0 (x115 + 1))) rfl) rfl ?_
                                refine blockA_n ?_
                                refine thenA_n ?_
                                subst hy139
                                refine awp_regionL1 ?_
                                refine goL_s (st_mv (v := (PV.d true (.int .i64 x116))) rfl) rfl ?_
                                refine goL_s (st_bin rfl rfl rfl rfl trivial) rfl ?_
                                refine goL_s (st_as (v := (PV.d true (.int .i64 (IntKind.wrap .i64 (x116 + (1 : Int)))))) rfl) rfl ?_
                                refine thenA_n ?_
                                refine ⟨m5, Nat.lt_succ_self _, ?_⟩
                                unfold J33_5
                                exact ⟨_, v118, v119, v149, v122, (x115 + 1), (IntKind.wrap .i64 (x116 + (1 : Int))), x140.2.2.2, (x121 ++ ([(.int .i64 x140.1), (.str x140.2.1), x140.2.2.1] : List PD)), Gh.join ⟨rfl, rfl, rfl, rfl, rfl, rfl, rfl, rfl, trivial⟩ ⟨(hpL_miss rfl (hpL_miss rfl hpL_hit)), (hpL_miss rfl (hpL_miss rfl (hpL_miss rfl hpL_hit))), hpL_hit, (hpL_miss rfl (hpL_miss rfl (hpL_miss rfl (hpL_miss rfl (hpL_miss rfl hpL_hit))))), trivial⟩, fun id hid nid1 => (hpL_low hid).trans (hlow144 id hid nid1), (hpL_low hid1).trans hc143, H⟩
                              · replace H := cond_f H hb137
                                subst hy138
                                refine awp_exit ?_
                                refine thenA_e ?_
                                refine thenA_e ?_
                                refine blockA_h ?_
                                refine thenA_n ?_
                                subst hy110
                                obtain ⟨g150, H⟩ := gd_out H
                                refine awp_frzs [9] (R := x121) hX ⟨rfl, trivial⟩ (hpL_miss rfl (hpL_miss rfl hpL_hit)) (toDs_true _) (mul_sz sz_65 g150) ?_
                                refine awp_regionL1 ?_
                                refine goL_s (st_fa_p (o' := 2) fi_65_2 (by decide) rfl (hpL_miss rfl (hpL_miss rfl hpL_hit)) rfl) rfl ?_
                                refine goL_s (st_ld_p (c := (PV.own (N + 102) v122 0 x54)) ty_63 rfl (hpL_miss rfl (hpL_miss rfl hpL_hit)) rfl) rfl ?_
                                refine goL_s (st_mv (v := (PV.d true (.lst x115 x121))) rfl) rfl ?_
                                obtain ⟨g151, H⟩ := gd_out H
                                refine goL_n (d' := 101) (st_bs1 (x := (PV.d true (.lst x115 x121))) (cs := [(PV.d true (.lst x115 x121))]) el_63 ze_28 sz_28 (by decide) rfl (by decide) rfl (cells_sl g151) rfl ⟨oneSl g151, trivial⟩) rfl fun v152 => ?_
                                obtain ⟨⟨g153, g154⟩, H⟩ := gd_out H
                                refine goL_n (d' := 102) (st_ap_o (row := (x56).map (PV.d true)) (news := (([(.lst x115 x121)] : List PD)).map (PV.d true)) (m := 1) (vy := (PV.own (N + 101) v152 0 1)) el_63 ze_28 sz_28 by_28 (by decide) rfl rfl (hpL_miss rfl (hpL_miss rfl (hpL_miss rfl (hpL_miss rfl (hpL_miss rfl hpL_hit))))) rfl (src_own sz_28 hpL_hit rfl) g153 (by rw [List.length_map]; exact g154) (app_D _ _)) rfl fun v155 => ?_
                                refine goL_s (st_fa_p (o' := 2) fi_65_2 (by decide) rfl (hpL_miss rfl (hpL_miss rfl (hpL_miss rfl (hpL_miss rfl hpL_hit)))) rfl) rfl ?_
                                refine goL_o0 (st_sto (x := (PV.own (N + 102) v155 0 (x54 + 1))) (cs := [(PV.own (N + 102) v155 0 (x54 + 1))]) (row' := [(PV.d true (.int .i64 (0 : Int))), (PV.d true (.str ([] : List UInt8))), (PV.own (N + 102) v155 0 (x54 + 1))]) ty_63 rfl (hpL_miss rfl (hpL_miss rfl (hpL_miss rfl (hpL_miss rfl hpL_hit)))) rfl rfl rfl (Nat.le_of_ble_eq_true rfl) ⟨fits_o hpL_hit, trivial⟩ rfl) rfl ?_
                                refine blockA_n ?_
                                refine thenA_n ?_
                                unfold J33_2
                                exact ⟨_, v118, v119, v155, x117, (x54 + 1), (x56 ++ ([(.lst x115 x121)] : List PD)), Gh.join ⟨rfl, rfl, rfl, rfl, rfl, trivial⟩ ⟨(hpL_miss rfl (hpL_miss rfl (hpL_miss rfl (hpL_miss rfl hpL_hit)))), hpL_hit, (hpL_miss rfl hpL_hit), trivial⟩, fun id hid nid1 => (hpL_low hid).trans (hlow132 id hid nid1), (hpL_low hid1).trans hc134, H⟩
                  · intro s hJ
                    unfold J33_2 at hJ
                    obtain ⟨hpx79, v74, v75, v77, x73, x76, x78, hG81, hlow80, hc82, H⟩ := hJ
                    unfold F33_K2 at H
                    refine awp_gh hG81 ?_
                    clear hG81
                    refine awp_regionL1 ?_
                    refine goL_s (st_mv (v := (PV.d true (.int .i64 x50))) rfl) rfl ?_
                    refine goL_s (st_bin rfl rfl rfl rfl trivial) rfl ?_
                    refine goL_s (st_as (v := (PV.d true (.int .i64 (IntKind.wrap .i64 (x50 + (1 : Int)))))) rfl) rfl ?_
                    refine thenA_n ?_
                    refine ⟨m1, Nat.lt_succ_self _, ?_⟩
                    unfold J33_1
                    exact ⟨_, v74, v75, v77, (IntKind.wrap .i64 (x50 + (1 : Int))), x73, x76, x78, Gh.join ⟨rfl, rfl, rfl, rfl, rfl, trivial⟩ ⟨hpL_hit, (hpL_miss rfl hpL_hit), (hpL_miss rfl (hpL_miss rfl hpL_hit)), trivial⟩, fun id hid nid1 => (hpL_low hid).trans (hlow80 id hid nid1), (hpL_low hid1).trans hc82, H⟩
                · replace H := cond_f H hb71
                  subst hy72
                  refine awp_exit ?_
                  refine thenA_e ?_
                  refine thenA_e ?_
                  refine blockA_h ?_
                  refine thenA_n ?_
                  subst hy46
                  obtain ⟨g186, H⟩ := gd_out H
                  refine awp_frzC (i := 2) (R := x56) (rj' := [(PV.d true (.int .i64 (0 : Int))), (PV.d true (.str ([] : List UInt8))), (PV.d true (.lst x54 x56))]) hX (hpL_miss rfl (hpL_miss rfl hpL_hit)) (toDs_true _) (hpL_miss rfl hpL_hit) rfl rfl (mul_sz sz_28 g186) rfl ?_
                  refine awp_regionL fun y185 hy185 => ?_
                  refine goL_s (st_ldA_p (cs := [(PV.d true (.int .i64 (0 : Int))), (PV.d true (.str ([] : List UInt8))), (PV.d true (.lst x54 x56))]) ty_65 rfl hpL_hit (Nat.le_of_ble_eq_true rfl) rfl) rfl ?_
                  obtain ⟨g187, H⟩ := gd_out H
                  refine goL_o0 (st_sto (x := (PV.agg [(PV.d true (.int .i64 (0 : Int))), (PV.d true (.str ([] : List UInt8))), (PV.d true (.lst x54 x56))])) (cs := [(PV.d true (.int .i64 (0 : Int))), (PV.d true (.str ([] : List UInt8))), (PV.d true (.lst x54 x56))]) (row' := [(PV.d true (.int .i64 (0 : Int))), (PV.d true (.str ([] : List UInt8))), (PV.d true (.lst x54 x56))]) ty_65 rfl (hpL_miss rfl (hpL_miss rfl hpL_hit)) rfl rfl rfl (Nat.le_of_ble_eq_true rfl) ⟨rfl, rfl, oneSl g187, trivial⟩ rfl) rfl ?_
                  subst hy185
                  refine awp_ret ?_
                  obtain rfl := Option.some.inj H
                  refine ret1 (res_c (ds := [(.int .i64 (0 : Int)), (.str ([] : List UInt8)), (.lst x54 x56)]) ty_65 rfl hpL_hit rfl rfl) (hp2 := (upd hp id1 (w1, some (.cells 92 [(PV.d true x2), (PV.d true x3), (dk kq4 x5), (PV.d true (.int .i64 x51))])))) ?_ ?_ (lowOK_also lowOK_same ⟨trivial, trivial, loc_dk, trivial, trivial⟩) ⟨rfl, rfl⟩ (.inr rfl)
                  · intro id hid
                    by_cases nid1 : id = id1
                    · rw [nid1]; exact (hpL_low hid1).trans (hc67.trans (Eq.symm (upd_eq _ _ _)))
                    exact (hpL_low hid).trans ((hlow65 id hid nid1).trans (Eq.symm ((upd_ne _ _ nid1).trans (rfl))))
                  · intro id hid; exact (upd_ne _ _ (fun e => absurd hid1 (by omega))).trans (rfl)

def F15 (n : Nat) (x1 : PD) (kq2 : Bool) (x3 : PD) : Option (Int × (List UInt8) × PD) :=
  bd (F32 n x1) fun x7 =>
  gd ((isSlD x1 = true) ∧ (isSlD x7 = true) ∧ (isSlD x3 = true)) <|
  gd ((isSlD x1 = true) ∧ (isSlD x7 = true) ∧ (isSlD x3 = true)) <|
  bd (F33 n (0 : Int) x1 x7 kq2 x3 (0 : Int)) fun x17 =>
  gd (isSlD x17.2.2.1 = true) <|
  some (x17.1, x17.2.1, x17.2.2.1)

set_option maxHeartbeats 4000000 in
theorem f15_calls {n : Nat} {x1 : PD} {kq2 : Bool} {x3 : PD} {r : Int × (List UInt8) × PD} (H : F15 n x1 kq2 x3 = some r) (N : Nat) (hp : HP) : ACalls Try.prog 15 N [(PV.d true x1), (dk kq2 x3)] hp fun r' hp' => r' = (PV.d true (.agg [(.int .i64 r.1), (.str r.2.1), r.2.2])) ∧ hp' = hp := by
  unfold F15 at H
  refine acalls_body Try.func15 rfl rfl Try.ntmps15 (by simp) fun X hX => ?_
  refine awp_start (l := [(0, (PV.d true x1)), (1, (dk kq2 x3))]) (N := N) ⟨rfl, rfl, trivial⟩ ?_
  have hlow0 : ∀ id, id < N → hp id = hp id := fun _ _ => rfl
  refine awp_regionL fun y4 hy4 => ?_
  refine goL_n (d' := 4) (st_alloc ze_65) rfl fun v5 => ?_
  subst hy4
  refine awp_regionL fun y6 hy6 => ?_
  refine goL_s (st_mv (v := (PV.d true x1)) rfl) rfl ?_
  refine goL_s (st_mv (v := (PV.d true x1)) rfl) rfl ?_
  obtain ⟨x7, c8, H⟩ := bd_out H
  refine goL_cp (args' := [(PV.d true x1)]) (r := (PV.d true x7)) rfl rfl ⟨Wk.refl, trivial⟩ enter_32 rfl (f32_calls c8 (N + 14) _) ?_
  refine goL_s (st_mv (v := (dk kq2 x3)) rfl) rfl ?_
  obtain ⟨⟨g9, g10, g11⟩, H⟩ := gd_out H
  refine goL_s (st_buildR (parts := [(0, (PV.d true x1)), (1, (PV.d true x7)), (2, (dk kq2 x3))]) (cells := [(PV.d true x1), (PV.d true x7), (dk kq2 x3), (PV.d true (.int .i64 (0 : Int)))]) ze_92 sr_92 rfl (FillR.cons (cells' := [(PV.d true x1), (PV.d true .nil), (PV.d true .nil), (PV.d true (.int .i64 (0 : Int)))]) rfl (cells_sl g9) rfl (Nat.le_of_ble_eq_true rfl) ⟨oneSl g9, trivial⟩ rfl (FillR.cons (cells' := [(PV.d true x1), (PV.d true x7), (PV.d true .nil), (PV.d true (.int .i64 (0 : Int)))]) rfl (cells_sl g10) rfl (Nat.le_of_ble_eq_true rfl) ⟨oneSl g10, trivial⟩ rfl (FillR.cons (cells' := [(PV.d true x1), (PV.d true x7), (dk kq2 x3), (PV.d true (.int .i64 (0 : Int)))]) rfl (cells_slk g11) rfl (Nat.le_of_ble_eq_true rfl) ⟨fits_slk g11, trivial⟩ rfl FillR.nil)))) rfl ?_
  obtain ⟨⟨g12, g13, g14⟩, H⟩ := gd_out H
  refine goL_n (d' := 11) (st_box (v := (PV.agg [(PV.d true x1), (PV.d true x7), (dk kq2 x3), (PV.d true (.int .i64 (0 : Int)))])) (cs := [(PV.d true x1), (PV.d true x7), (dk kq2 x3), (PV.d true (.int .i64 (0 : Int)))]) rfl rfl ⟨oneSl g12, oneSl g13, fits_slk g14, rfl, trivial⟩) rfl fun v15 => ?_
  refine goL_s (st_as (v := (PV.ptr (N + 11) v15 0)) rfl) rfl ?_
  subst hy6
  refine awp_regionL fun y16 hy16 => ?_
  refine goL_s (st_mv (v := (PV.ptr (N + 11) v15 0)) rfl) rfl ?_
  obtain ⟨x17, c18, H⟩ := bd_out H
  refine goL_cg (U := Unit) (args' := [(PV.ptr (N + 11) v15 0), (PV.d true (.int .i64 (0 : Int)))]) (r := fun _ => (PV.d true (.agg [(.int .i64 x17.1), (.str x17.2.1), x17.2.2.1]))) (h' := fun _ => (upd (hpL N hp _) (N + 11) (v15, some (.cells 92 [(PV.d true x1), (PV.d true x7), (dk kq2 x3), (PV.d true (.int .i64 x17.2.2.2))])))) rfl rfl ⟨Wk.refl, ⟨Wk.refl, trivial⟩⟩ enter_33 rfl (ACalls.mono (f33_calls c18 (N + 14) _ (show (N + 11) < N + 14 from Nat.add_lt_add_left (by decide) N) hpL_hit) (fun r' hp' ⟨h1, h2⟩ => ⟨(), h1, h2⟩)) fun _ => ?_
  refine goL_hp (h' := hpL N hp ((11, (v15, some (.cells 92 [(PV.d true x1), (PV.d true x7), (dk kq2 x3), (PV.d true (.int .i64 x17.2.2.2))]))) :: _)) rfl ?_
  obtain ⟨g19, H⟩ := gd_out H
  refine goL_o0 (st_sto (x := (PV.d true (.agg [(.int .i64 x17.1), (.str x17.2.1), x17.2.2.1]))) (cs := [(PV.d true (.int .i64 x17.1)), (PV.d true (.str x17.2.1)), (PV.d true x17.2.2.1)]) (row' := [(PV.d true (.int .i64 x17.1)), (PV.d true (.str x17.2.1)), (PV.d true x17.2.2.1)]) ty_65 rfl (hpL_miss rfl (hpL_miss rfl hpL_hit)) rfl (cells_ad (by simp only [List.map_cons, List.map_nil, dk_true])) rfl (Nat.le_of_ble_eq_true rfl) ⟨rfl, rfl, oneSl g19, trivial⟩ rfl) rfl ?_
  subst hy16
  refine awp_ret ?_
  obtain rfl := Option.some.inj H
  exact ret1 (res_c (ds := [(.int .i64 x17.1), (.str x17.2.1), x17.2.2.1]) ty_65 rfl hpL_hit rfl rfl) (fun id hid => (hpL_low hid).trans (hlow0 id hid)) (fun _ _ => rfl) lowOK_same ⟨rfl, rfl⟩ (.inr rfl)

def F7_K2 (x3 : PD) (x9 : Int) (n : Nat) (x1 : PD) (kq2 : Bool) (x8 : Nat) (x11 : List PD) (lo1 : Nat → Int → List PD → Option (PD)) (x20 : Bool) : Option (PD) :=
  bif x20 then
    gd (idxOK 1 x3 x9) <|
    gd (1 ≤ (((cellsD x3).drop ((x9).toNat * 1))).length) <|
    bd (F15 n x1 kq2 ((((cellsD x3).drop ((x9).toNat * 1))).getD 0 .nil)) fun x30 =>
    gd (isSlD x30.2.2 = true) <|
    gd ((apOK 48 (x8 + 1)) ∧ (x8 * 3 = (x11).length)) <|
    lo1 (x8 + 1) (IntKind.wrap .i64 (x9 + (1 : Int))) (x11 ++ ([(.int .i64 x30.1), (.str x30.2.1), x30.2.2] : List PD))
  else
    gd (x8 * 3 = (x11).length) <|
    some (.lst x8 x11)

def J7_2 (C : Ctx) (N : Nat) (hp : HP) (x3 : PD) (x9 : Int) (n : Nat) (x1 : PD) (kq2 : Bool) (x8 : Nat) (x11 : List PD) (lo1 : Nat → Int → List PD → Option (PD)) (rr : PD) (s : ASt) : Prop :=
  ∃ (hpx : HP) (v21 : Nat) (x20 : Bool), Gh C s ⟨envL [(0, (PV.d true x1)), (1, (dk kq2 x3)), (5, (PV.own (N + 25) v21 0 x8)), (6, (PV.d true (.int .i64 x9))), (14, (PV.d true (.bool x20)))], hpL N hpx [(25, (v21, some (.cells 65 ((x11).map (PV.d true)))))]⟩ ∧ (∀ id, id < N → hpx id = hp id) ∧ F7_K2 x3 x9 n x1 kq2 x8 x11 lo1 x20 = some rr

def F7_L1 (x3 : PD) (n : Nat) (x1 : PD) (kq2 : Bool) : Nat → Nat → Int → List PD → Option (PD)
  | 0, _, _, _ => none
  | m1 + 1, x8, x9, x11 =>
    gd (isSlD x3 = true) <|
    bif (decide (x9 < (lenN x3 : Int))) then
      F7_K2 x3 x9 n x1 kq2 x8 x11 (F7_L1 x3 n x1 kq2 m1) (decide (x9 < (16 : Int)))
    else
      F7_K2 x3 x9 n x1 kq2 x8 x11 (F7_L1 x3 n x1 kq2 m1) false

def J7_1 (C : Ctx) (N : Nat) (hp : HP) (x3 : PD) (n : Nat) (x1 : PD) (kq2 : Bool) (rr : PD) (mm : Nat) (s : ASt) : Prop :=
  ∃ (hpx : HP) (v10 : Nat) (x8 : Nat) (x9 : Int) (x11 : List PD), Gh C s ⟨envL [(0, (PV.d true x1)), (1, (dk kq2 x3)), (5, (PV.own (N + 25) v10 0 x8)), (6, (PV.d true (.int .i64 x9)))], hpL N hpx [(25, (v10, some (.cells 65 ((x11).map (PV.d true)))))]⟩ ∧ (∀ id, id < N → hpx id = hp id) ∧ F7_L1 x3 n x1 kq2 mm x8 x9 x11 = some rr

def F7 (n : Nat) (x1 : PD) (kq2 : Bool) (x3 : PD) : Option (PD) :=
  F7_L1 x3 n x1 kq2 n 0 (0 : Int) ([] : List PD)

set_option maxHeartbeats 4000000 in
theorem f7_calls {n : Nat} {x1 : PD} {kq2 : Bool} {x3 : PD} {r : PD} (H : F7 n x1 kq2 x3 = some r) (N : Nat) (hp : HP) : ACalls Try.prog 7 N [(PV.d true x1), (dk kq2 x3)] hp fun r' hp' => r' = (PV.d true r) ∧ hp' = hp := by
  unfold F7 at H
  refine acalls_body Try.func7 rfl rfl Try.ntmps7 (by simp) fun X hX => ?_
  refine awp_start (l := [(0, (PV.d true x1)), (1, (dk kq2 x3))]) (N := N) ⟨rfl, rfl, trivial⟩ ?_
  have hlow0 : ∀ id, id < N → hp id = hp id := fun _ _ => rfl
  refine awp_regionL fun y4 hy4 => ?_
  refine goL_s (st_as (v := (PV.d true .nil)) rfl) rfl ?_
  subst hy4
  refine awp_regionL fun y5 hy5 => ?_
  refine goL_s (st_as (v := (PV.d true .nil)) rfl) rfl ?_
  subst hy5
  refine awp_hide fun y6 hy6 => ?_
  refine awp_regionL fun y7 hy7 => ?_
  refine goL_s (st_as (v := (PV.d true (.int .i64 (0 : Int)))) rfl) rfl ?_
  subst hy7
  refine awp_block ?_
  refine awp_loop (J7_1 (mkC 27 N Try.prog hp X) N hp x3 n x1 kq2 r) n ?_ ?_
  · unfold J7_1
    exact ⟨_, _, 0, (0 : Int), ([] : List PD), ((Gh.virtE (t := 5) (d := 25) 65 (Nat.add_lt_add_left (show 25 < 27 by decide) N) rfl).trans (Gh.join ⟨rfl, rfl, rfl, rfl, trivial⟩ ⟨hpL_hit, trivial⟩)), fun id hid => (hpL_low hid).trans (hlow0 id hid), H⟩
  · intro m1 s hJ
    unfold J7_1 at hJ
    obtain ⟨hpx16, v10, x8, x9, x11, hG18, hlow17, H⟩ := hJ
    cases m1 with
    | zero => cases H
    | succ m1 =>
      rw [F7_L1] at H
      refine awp_gh hG18 ?_
      clear hG18
      refine awp_hide fun y19 hy19 => ?_
      refine awp_cut (J7_2 (mkC 27 N Try.prog hp X) N hp x3 x9 n x1 kq2 x8 x11 (F7_L1 x3 n x1 kq2 m1) r) ?_ ?_
      · refine awp_regionL1 ?_
        refine goL_s (st_mv (v := (PV.d true (.int .i64 x9))) rfl) rfl ?_
        refine goL_s (st_mv (v := (dk kq2 x3)) rfl) rfl ?_
        obtain ⟨g39, H⟩ := gd_out H
        refine goL_s (st_len_dk (y := x3) sl_23 rfl g39) rfl ?_
        refine goL_s (st_bin rfl rfl rfl rfl trivial) rfl ?_
        refine goL_s (st_mv (v := (PV.d true (.bool (decide (x9 < (lenN x3 : Int)))))) rfl) rfl ?_
        refine goL_fork (decide (x9 < (lenN x3 : Int))) (fun hb40 => ?_) (fun hb40 => ?_)
        · replace H := cond_t H hb40
          refine goL_gT rfl rfl hb40 ?_
          refine goL_s (st_mv (v := (PV.d true (.int .i64 x9))) rfl) rfl ?_
          refine goL_gT rfl rfl hb40 ?_
          refine goL_s (st_bin rfl rfl rfl rfl trivial) rfl ?_
          refine goL_s (st_pickT (v := (PV.d true (.bool (decide (x9 < (16 : Int)))))) rfl hb40 rfl) rfl ?_
          refine thenA_n ?_
          unfold J7_2
          exact ⟨_, v10, (decide (x9 < (16 : Int))), Gh.join ⟨rfl, rfl, rfl, rfl, rfl, trivial⟩ ⟨hpL_hit, trivial⟩, fun id hid => (hpL_low hid).trans (hlow17 id hid), H⟩
        · replace H := cond_f H hb40
          refine goL_gF rfl rfl hb40 rfl ?_
          refine goL_gF rfl rfl hb40 rfl ?_
          refine goL_s (st_pickF (v := (PV.d true (.bool false))) rfl hb40 rfl) rfl ?_
          refine thenA_n ?_
          unfold J7_2
          exact ⟨_, v10, false, Gh.join ⟨rfl, rfl, rfl, rfl, rfl, trivial⟩ ⟨hpL_hit, trivial⟩, fun id hid => (hpL_low hid).trans (hlow17 id hid), H⟩
      · intro s hJ
        unfold J7_2 at hJ
        obtain ⟨hpx22, v21, x20, hG24, hlow23, H⟩ := hJ
        unfold F7_K2 at H
        refine awp_gh hG24 ?_
        clear hG24
        refine awp_ifL (b := x20) rfl (fun y26 hy26 hb25 => ?_) (fun y26 hy26 hb25 => ?_)
        · replace H := cond_t H hb25
          subst hy26
          refine awp_skip ?_
          refine thenA_n ?_
          subst hy19
          refine awp_hide fun y27 hy27 => ?_
          refine awp_block ?_
          refine awp_regionL1 ?_
          refine goL_s (st_mv (v := (PV.own (N + 25) v21 0 x8)) rfl) rfl ?_
          refine goL_s (st_mv (v := (PV.d true x1)) rfl) rfl ?_
          refine goL_s (st_mv (v := (dk kq2 x3)) rfl) rfl ?_
          refine goL_s (st_mv (v := (PV.d true (.int .i64 x9))) rfl) rfl ?_
          obtain ⟨g28, H⟩ := gd_out H
          refine goL_s (st_ia_dk el_23 sz_22 (by decide) (y := x3) rfl rfl g28) rfl ?_
          obtain ⟨g29, H⟩ := gd_out H
          refine goL_s (st_ld_lp ty_22 rfl g29 rfl) rfl ?_
          obtain ⟨x30, c31, H⟩ := bd_out H
          refine goL_cp (args' := [(PV.d true x1), (dk kq2 ((((cellsD x3).drop ((x9).toNat * 1))).getD 0 .nil))]) (r := (PV.d true (.agg [(.int .i64 x30.1), (.str x30.2.1), x30.2.2]))) rfl rfl ⟨Wk.refl, ⟨Wk.refl, trivial⟩⟩ enter_15 rfl (f15_calls c31 (N + 27) _) ?_
          obtain ⟨g32, H⟩ := gd_out H
          refine goL_n (d' := 24) (st_bs1 (x := (PV.d true (.agg [(.int .i64 x30.1), (.str x30.2.1), x30.2.2]))) (cs := [(PV.d true (.int .i64 x30.1)), (PV.d true (.str x30.2.1)), (PV.d true x30.2.2)]) el_28 ze_65 sz_65 (by decide) rfl (by decide) rfl (cells_ad (by simp only [List.map_cons, List.map_nil, dk_true])) rfl ⟨rfl, rfl, oneSl g32, trivial⟩) rfl fun v33 => ?_
          obtain ⟨⟨g34, g35⟩, H⟩ := gd_out H
          refine goL_n (d' := 25) (st_ap_o (row := (x11).map (PV.d true)) (news := (([(.int .i64 x30.1), (.str x30.2.1), x30.2.2] : List PD)).map (PV.d true)) (m := 1) (vy := (PV.own (N + 24) v33 0 1)) el_28 ze_65 sz_65 by_65 (by decide) rfl rfl (hpL_miss rfl hpL_hit) rfl (src_own sz_65 hpL_hit rfl) g34 (by rw [List.length_map]; exact g35) (app_D _ _)) rfl fun v36 => ?_
          refine goL_s (st_as (v := (PV.own (N + 25) v36 0 (x8 + 1))) rfl) rfl ?_
          refine blockA_n ?_
          refine thenA_n ?_
          subst hy27
          refine awp_regionL1 ?_
          refine goL_s (st_mv (v := (PV.d true (.int .i64 x9))) rfl) rfl ?_
          refine goL_s (st_bin rfl rfl rfl rfl trivial) rfl ?_
          refine goL_s (st_as (v := (PV.d true (.int .i64 (IntKind.wrap .i64 (x9 + (1 : Int)))))) rfl) rfl ?_
          refine thenA_n ?_
          refine ⟨m1, Nat.lt_succ_self _, ?_⟩
          unfold J7_1
          exact ⟨_, v36, (x8 + 1), (IntKind.wrap .i64 (x9 + (1 : Int))), (x11 ++ ([(.int .i64 x30.1), (.str x30.2.1), x30.2.2] : List PD)), Gh.join ⟨rfl, rfl, rfl, rfl, trivial⟩ ⟨hpL_hit, trivial⟩, fun id hid => (hpL_low hid).trans (hlow23 id hid), H⟩
        · replace H := cond_f H hb25
          subst hy26
          refine awp_exit ?_
          refine thenA_e ?_
          refine thenA_e ?_
          refine blockA_h ?_
          refine thenA_n ?_
          subst hy6
          refine awp_regionL fun y37 hy37 => ?_
          refine goL_s (st_mv (v := (PV.own (N + 25) v21 0 x8)) rfl) rfl ?_
          refine goL_s (st_as (v := (PV.own (N + 25) v21 0 x8)) rfl) rfl ?_
          subst hy37
          obtain ⟨g38, H⟩ := gd_out H
          refine awp_frzs [5, 26, 4] (R := x11) hX ⟨rfl, rfl, rfl, trivial⟩ hpL_hit (toDs_true _) (mul_sz sz_65 g38) ?_
          refine awp_ret ?_
          obtain rfl := Option.some.inj H
          exact ret1 (res_t (x := (PV.d true (.lst x8 x11))) (d := (.lst x8 x11)) rfl rfl) (fun id hid => (hpL_low hid).trans (hlow23 id hid)) (fun _ _ => rfl) lowOK_same ⟨rfl, rfl⟩ (.inr rfl)

end Go.Proofs.Ytfhpoffgnpgagaa
