/- Part of the proof: what each function of the program comes to over values alone, spelled out (printed by a program of this repo, from the program's code). -/
import Derived.Test.YtceokplopachgaaQ2
import Derived.Test.YtceokplopachgaaProg
import Derived.KernelRfl
set_option linter.unusedVariables false
set_option maxRecDepth 100000
namespace Go.Pvm.S
open Go.Pvm Go.Proofs
set_option maxHeartbeats 4000000
def zmg (f : FuncId) : Pvm.Mode := match f with
 | 8 | 9 | 12 | 14 | 15 | 16 | 17 | 18 | 19 | 27 | 29 | 32 | 33 | 34 | 35 | 39 | 41 | 43 | 44 | 45 | 46 | 55 | 56 | 58 | 65 | 67 | 70 | 72 | 82 | 87 | 91 | 92 | 93 | 94 | 95 | 96 | 98 | 99 | 102 | 104 | 105 | 106 | 108 => .live
 | 40 | 83 => .own
 | 77 => .blind
 | _ => .pure
def zw1 : FuncId → Nat → Option (List Nat × List (Nat × TypeId) × List (Nat × TypeId))
 | 3,7 => some ([1,7,9,10],[(1,22),(7,27),(9,0)],[])
 | 3,11 => some ([1,7,9,11],[],[(4,4)])
 | 4,2 => some ([1,3],[(1,0)],[(2,4)])
 | 5,7 => some ([1,5,8,10],[(8,27)],[(4,4)])
 | 5,21 => some ([1,5,8,10,11,12,13,14],[(1,22),(5,3),(8,27),(10,3),(12,50),(13,3)],[(4,4)])
 | 6,10 => some ([2,9,11,13,14],[],[(6,4)])
 | 7,7 => some ([1,2,7,9,11,12],[(2,34),(7,23)],[(6,4)])
 | 7,27 => some ([7,15,16],[],[(6,4)])
 | 7,33 => some ([7,15,16,17,19],[(7,23),(15,33),(16,3)],[(6,4)])
 | 10,3 => some ([0,3,4],[],[(2,4)])
 | 13,3 => some ([0,3,4],[(3,33)],[])
 | 14,3 => some ([0,3,8,9,10],[(3,50)],[])
 | 20,3 => some ([1,4,5,6],[(4,0),(5,0)],[])
 | 24,3 => some ([1,4,5,6],[(4,50),(5,50)],[])
 | 25,2 => some ([1,2,3],[(1,0),(2,0)],[])
 | 29,2 => some ([0,17,18,19],[(0,23)],[])
 | 29,7 => some ([0,32,33,34],[(0,23)],[])
 | 32,9 => some ([1,7,16],[],[(6,4)])
 | 33,2 => some ([0,1,2,16,17,18],[(0,23),(2,3)],[])
 | 33,8 => some ([0,2,44,45,46],[(0,23)],[])
 | 45,5 => some ([0,1,5,6],[(0,50),(5,3)],[])
 | 50,2 => some ([1,2,5],[],[(4,3)])
 | 51,4 => some ([2,3,4,5,6,7],[(2,0),(3,0),(4,0),(5,64),(6,4)],[])
 | 53,3 => some ([1,2,4,5,6],[(2,0),(4,0),(5,64)],[])
 | 59,5 => some ([0,4,12,13,14],[(0,23),(4,3)],[])
 | 60,3 => some ([1,4,5,6],[(4,3),(5,3)],[])
 | 61,4 => some ([0,1,5],[],[(4,4)])
 | 63,8 => some ([7,8],[(7,44)],[])
 | 65,6 => some ([0,1,2,22],[],[])
 | 66,5 => some ([1,28,29,30],[],[(2,24)])
 | 71,1 => some ([0,5],[],[(100000,0)])
 | 72,2 => some ([0,1,7,8],[],[(4,3)])
 | 73,13 => some ([1,2,4,11,12],[(2,0),(4,0)],[(4,0),(5,3),(6,3),(7,24)])
 | 74,6 => some ([1,2,3,6,8],[(3,0),(6,0)],[])
 | 75,2 => some ([1,2,5],[],[(4,3)])
 | 82,6 => some ([0,5,21,22],[],[(2,3),(3,4)])
 | 84,2 => some ([0,1,7,8],[],[(4,3)])
 | 87,2 => some ([0,1,2,3,8,9],[],[(100000,0)])
 | 91,1 => some ([0,1,2,6],[],[])
 | 91,4 => some ([0,1,2,6,7],[(0,50),(1,3),(2,3),(6,3)],[])
 | 92,4 => some ([0,6,7,8,9],[(0,50),(6,3),(7,3),(8,3)],[])
 | 92,8 => some ([0,6,7,10],[],[])
 | 93,5 => some ([0,1,6,7,8,9],[],[])
 | 95,2 => some ([0,6,7],[],[])
 | 96,3 => some ([0,1,2,7,8],[],[(6,4)])
 | 96,5 => some ([0,1,2,7,8],[(0,50),(1,3),(2,3),(7,3),(8,3)],[])
 | 96,14 => some ([0,1,2,7,8,9],[(0,50),(1,3),(2,3),(7,3),(8,3)],[])
 | 96,20 => some ([0,1,2,7,8,10],[(0,50),(1,3),(2,3),(7,3),(8,3)],[])
 | 98,1003 => some ([0,1,9,10],[(9,3)],[])
 | 98,3 => some ([0,1,9,10],[(0,50),(1,3),(9,3),(10,3)],[])
 | 98,5 => some ([0,1,9,10],[(0,50),(1,3),(9,3),(10,3)],[])
 | 99,3 => some ([0,1,10,11],[(0,50),(1,3),(10,3),(11,3)],[])
 | 99,5 => some ([0,1,10,11],[(0,50),(1,3),(10,3),(11,3)],[])
 | 99,1013 => some ([0,1,10,11],[(0,50),(1,3),(11,3)],[])
 | 99,13 => some ([0,1,10,11],[(0,50),(1,3),(10,3),(11,3)],[])
 | 99,15 => some ([0,1,10,11],[(0,50),(1,3),(10,3),(11,3)],[])
 | 102,1 => some ([0,2,3,8],[],[(100000,0)])
 | _,_ => none
def zvh : FuncId → Nat → Option (Bool × List Nat)
 | 7,18 => some (true,[13])
 | 22,4 => some (true,[2])
 | 27,0 => some (false,[1])
 | 39,15 => some (false,[11])
 | 55,2 => some (false,[3])
 | 57,10 => some (false,[6])
 | 73,21 => some (true,[11,14])
 | 78,10 => some (false,[3])
 | _,_ => none
def zy7 : FuncId → Nat → List Nat
 | _,_ => []
def z3y (f : FuncId) : Pvm.Mode := match f with
 | 13 => .live
 | f => zmg f
def zmf (f : FuncId) : Pvm.Mode := match f with
 | 40 => .pure
 | 83 => .pure
 | f => zmg f
def zsk (f : FuncId) : Pvm.Mode := match f with
 | 40 => .pure
 | 83 => .pure
 | f => zmg f
def zme (f : FuncId) : Pvm.Mode := match f with
 | 40 => .pure
 | 83 => .pure
 | f => zmg f
def zzn : FuncId → Option (FuncId → Mode)
 | 7 => some z3y
 | 12 => some zmf
 | 27 => some zsk
 | 65 => some zme
 | _ => none
def zb5 : FuncId → Option Word
 | 70 => some (.sort)
 | 43 => some (.sorted 71)
 | 44 => some (.keys 71)
 | _ => none
noncomputable def cfg : Cfg := { P := Try.prog,mode := zmg,alt := zzn,mask := zw1,close := zvh,flo := zy7,told := fun f => (zb5 f).map (zef Try.prog) }
noncomputable def zf1 : Cfg := { cfg with strict := true }
noncomputable def zf2 : Cfg := { cfg with mode := zmf }
noncomputable def z3m : Cfg := { cfg with mode := zsk }
noncomputable def z4a : Cfg := { z3m with strict := true }
noncomputable def zon : Cfg := { cfg with mode := zme }
noncomputable def ztw : Cfg := { zon with strict := true }
def zy2 : FuncId → Nat → List (Nat × TypeId)
 | 13,3 => [(0,33),(3,33)]
 | 10,3 => [(0,22)]
 | 24,3 => [(4,50),(5,50)]
 | 61,4 => [(0,50),(1,50)]
 | 63,8 => [(7,44)]
 | 66,5 => [(28,44)]
 | 51,4 => [(5,64)]
 | 53,3 => [(5,64)]
 | 84,2 => [(0,44)]
 | 74,6 => [(2,33)]
 | _,_ => []
def zy1 : FuncId → Nat → Nat → List Nat × List Nat
 | _,_,_ => ([],[])
def zy6 : FuncId → Nat → List Nat
 | _,_ => []
def zyr : FuncId → Nat → Nat → List Nat → List (Nat × Sk) × List OSk
 | 82,6,_,_ => ([],[(.box true 46 [.whole 1 3,.int .i64]),.made true 3])
 | 13,3,_,_ => ([(3,(.whole 0 1))],[.made true 1])
 | 10,3,_,_ => ([],[])
 | 60,3,_,_ => ([(4,(.int .i64)),(5,(.int .i64))],[])
 | 20,3,_,_ => ([(4,(.ref 0 0 0)),(5,(.ref 1 0 0))],[(.box true 66 [.whole 2 1,.int .i64,.whole 3 1,.whole 4 1,.int .i64,.whole 5 1,.whole 6 4,.bool,.int .i64,.whole 7 3,.int .i64,.whole 8 4,.int .i64]),(.box true 66 [.psl,.int .i64,.psl,.psl,.int .i64,.psl,.psl,.bool,.int .i64,.whole 9 3,.int .i64,.whole 10 4,.int .i64]),.made true 1,.made true 1,.made true 1,.made true 1,.made true 4,.made true 3,.made true 4,.made true 3,.made true 4])
 | 24,3,_,_ => ([(4,(.whole 0 1)),(5,(.whole 1 1))],[.made true 1,.made true 1])
 | 25,2,_,_ => ([(1,(.ref 0 0 0)),(2,(.ref 1 0 0))],[(.box true 66 [.psl,.int .i64,.psl,.psl,.int .i64,.psl,.psl,.bool,.int .i64,.psl,.int .i64,.psl,.int .i64]),(.box true 66 [.whole 2 1,.int .i64,.whole 3 1,.whole 4 1,.int .i64,.whole 5 1,.whole 6 4,.bool,.int .i64,.whole 7 3,.int .i64,.whole 8 4,.int .i64]),.made true 1,.made true 1,.made true 1,.made true 1,.made true 4,.made true 3,.made true 4])
 | 61,4,_,_ => ([],[])
 | 63,8,_,_ => ([(7,(.whole 0 3))],[.made true 3])
 | 66,5,_,_ => ([],[])
 | 50,2,_,_ => ([],[])
 | 51,4,_,_ => ([(2,(.ref 0 0 0)),(3,(.ref 1 0 0)),(4,(.ref 2 0 0)),(5,(.whole 3 4)),(6,.bool)],[(.box true 66 [.psl,.int .i64,.psl,.psl,.int .i64,.psl,.psl,.bool,.int .i64,.psl,.int .i64,.psl,.int .i64]),(.box true 107 [.int .i64,.psl,.bool,.int .i64]),(.box true 66 [.whole 4 1,.int .i64,.whole 5 1,.whole 6 1,.int .i64,.whole 7 1,.whole 8 4,.bool,.int .i64,.whole 9 3,.int .i64,.whole 10 4,.int .i64]),.made true 4,.made true 1,.made true 1,.made true 1,.made true 1,.made true 4,.made true 3,.made true 4])
 | 53,3,_,_ => ([(2,(.ref 0 0 0)),(4,(.ref 1 0 0)),(5,(.whole 2 4))],[(.box true 66 [.psl,.int .i64,.psl,.psl,.int .i64,.psl,.psl,.bool,.int .i64,.psl,.int .i64,.psl,.int .i64]),(.box true 66 [.whole 3 1,.int .i64,.whole 4 1,.whole 5 1,.int .i64,.whole 6 1,.whole 7 4,.bool,.int .i64,.whole 8 3,.int .i64,.whole 9 4,.int .i64]),.made true 4,.made true 1,.made true 1,.made true 1,.made true 1,.made true 4,.made true 3,.made true 4])
 | 84,2,_,_ => ([],[])
 | 73,13,_,_ => ([(2,(.ref 0 0 0)),(4,(.ref 1 0 0))],[(.box true 46 [.psl,.int .i64]),(.box true 46 [.whole 2 3,.int .i64]),.made true 3])
 | 74,6,_,_ => ([(3,(.ref 0 0 0)),(6,(.ref 1 0 0))],[(.box true 63 [.psl,.int .i64,.psl,.psl,.int .i64,.psl,.psl,.bool,.int .i64]),(.box true 63 [.whole 2 1,.int .i64,.whole 3 1,.whole 4 1,.int .i64,.whole 5 1,.whole 6 4,.bool,.int .i64]),.made true 1,.made true 1,.made true 1,.made true 1,.made true 4])
 | 75,2,_,_ => ([],[])
 | _,_,_,_ => ([],[])
def zwx : FuncId → Nat → Bool
 | _,_ => false
def zyn : FuncId → Nat → Nat → List Nat → List (Nat × Sk) × List OSk
 | 82,6,_,_ => ([(2,(.int .i64)),(3,.bool)],[(.box true 46 [.whole 1 3,.int .i64]),.made true 3])
 | 10,3,_,_ => ([(2,.bool)],[])
 | 61,4,_,_ => ([(4,.bool)],[])
 | 66,5,_,_ => ([(2,(.int .i64))],[])
 | 50,2,_,_ => ([(4,(.int .i64))],[])
 | 84,2,_,_ => ([(4,(.int .i64))],[])
 | 73,13,_,_ => ([(4,(.ref 0 0 0)),(5,(.int .i64)),(6,(.int .i64)),(7,(.int .i64))],[(.box true 46 [.psl,.int .i64])])
 | 75,2,_,_ => ([(4,(.int .i64))],[])
 | _,_,_,_ => ([],[])
def zyu : FuncId → Sk × List OSk
 | 67 => ((.agg [.whole 0 3,.int .i64]),[.made true 3])
 | 82 => ((.tup [.int .i64,.bool]),[(.box true 46 [.whole 1 3,.int .i64]),.made true 3])
 | _ => (.any,[])
def zuq : FuncId → Option (Nat × (List PV → Option (List (List PV))))
 | 40 => some (1,zdo 1 1)
 | 83 => some (3,zdo 3 16)
 | _ => none
def zww : FuncId → List Nat
 | 45 => [1]
 | _ => []
def za5 : KCfg := { own := zuq,hty := zy2,hwk := zy1,fsl := zy6,osk := zyr,rsk := zyn,lsk := zyu,noex := zwx,told := zb5,nret := zww }
theorem zzw (C : z7) (L : xg) (σ : Store) (a0 : PV) : qa cfg C L 40 [a0] σ =
  (j9 Try.prog .eql 33 a0 .nilsl).bind fun v0 => asBool v0 fun b1 => if b1 = true then (some (.nilsl,σ)) else ((xt Try.prog σ 33 0 []).bind fun r2 => (y7 Try.prog r2.2 .append [33,33] [r2.1,a0]).bind fun r3 => some (r3.1,r3.2)) := by kernel_rfl
theorem z0i (C : z7) (L : xg) (σ : Store) (a0 : PV) : qa cfg C L 83 [a0] σ =
  (j9 Try.prog .eql 44 a0 .nilsl).bind fun v0 => asBool v0 fun b1 => if b1 = true then (some (.nilsl,σ)) else ((xt Try.prog σ 44 0 []).bind fun r2 => (y7 Try.prog r2.2 .append [44,44] [r2.1,a0]).bind fun r3 => some (r3.1,r3.2)) := by kernel_rfl
end Go.Pvm.S
