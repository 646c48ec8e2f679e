/- Part of the proof: nobody's pool; which pools there are. -/
import Derived.Test.YtceokplopachgaaPolQ
import Derived.KernelRfl
set_option linter.unusedSimpArgs false
set_option linter.unusedVariables false
set_option maxRecDepth 100000
namespace Go.Pvm.S
open Go.Pvm Go.Proofs
theorem z2p (C : z7) (L : xg) (σ : Store) (a1 : Int) : qa cfg C L 9 [.nilptr,(.int .i64 a1)] σ =
  (zi cfg C 36 [(.int .i64 a1)] σ).bind fun r0 => (ka r0.1 0).bind fun v1 => (ka r0.1 1).bind fun v2 => asInt .i64 v2 fun n3 => (zu Try.prog (Store.push r0.2 (.cells 0 [[.nilsl,(.int .i64 0)]])) 46 (.ref (Store.next r0.2) 0 0) v1).bind fun s4 => if (n3 != 0) = true then (some ((.tuple [.nilptr,(.int .i64 1)]),s4)) else ((zi cfg C 37 [.nilptr] s4).bind fun r5 => asInt .i64 r5.1 fun n6 => if (n6 == 0) = true then (some ((.tuple [.nilptr,(.int .i64 1)]),r5.2)) else ((zi cfg C 34 [.nilptr] r5.2).bind fun r7 => (ka r7.1 0).bind fun v8 => asInt .i64 v8 fun n9 => (ka r7.1 1).bind fun v10 => (zd Try.prog r7.2 46 (.ref (Store.next r0.2) 0 0)).bind fun v11 => (qg Try.prog r7.2 47 none).bind fun r12 => (jz Try.prog 49 [(0,.nilptr),(1,v11),(2,r12.1),(3,(.int .i64 n9))]).bind fun v13 => if (PV.known v13 = true ∧ (PV.cells v13).length ≠ 0) then (some ((.tuple [(.ref (Store.next r12.2) 0 0),(.int .i64 0)]),(Store.push r12.2 (.cells 0 [PV.cells v13])))) else none)) := by kernel_rfl
theorem z2o (C : z7) (L : xg) (σ : Store) (a1 : Int) (a2 : PV) (a3 : Int) : qa cfg C L 12 [.nilptr,(.int .i64 a1),a2,(.int .i64 a3)] σ =
  (zi zf2 C 38 [.nilptr] σ).bind fun r0 => asBool r0.1 fun b1 => if (!b1) = true then (some ((.int .i64 3),r0.2)) else (if (decide (a1 < 0)) = true then (some ((.int .i64 3),r0.2)) else ((zj Try.prog 49 .nilptr 0).bind fun v2 => (zd Try.prog r0.2 23 v2).bind fun v3 => (zi zf2 C 37 [v3] r0.2).bind fun r4 => asInt .i64 r4.1 fun n5 => if (decide (a1 ≥ n5)) = true then (some ((.int .i64 3),r4.2)) else ((jd Try.prog .len [33] [a2]).bind fun v6 => asInt .i64 v6 fun n7 => if (n7 != 512) = true then (some ((.int .i64 1),r4.2)) else ((zi zf2 C 39 [.nilptr,(.int .i64 a1)] r4.2).bind fun r8 => (zi zf2 C 40 [a2] r8.2).bind fun r9 => (zc2 r8.1).bind fun v10 => (zj Try.prog 92 v10 0).bind fun v11 => (zu Try.prog r9.2 33 v11 r9.1).bind fun s12 => (zc2 r8.1).bind fun v13 => (zj Try.prog 92 v13 1).bind fun v14 => (zu Try.prog s12 4 v14 (.bool true)).bind fun s15 => (zc2 r8.1).bind fun v16 => (zj Try.prog 92 v16 2).bind fun v17 => (zu Try.prog s15 3 v17 (.int .i64 a3)).bind fun s18 => some ((.int .i64 0),s18))))) := by kernel_rfl
theorem z2n (C : z7) (L : xg) (σ : Store)  : qa cfg C L 14 [.nilptr] σ =
  (zi cfg C 19 [.nilptr] σ).bind fun r0 => (jd Try.prog .len [50] [r0.1]).bind fun v1 => asInt .i64 v1 fun n2 => (L 14 zmj (zlx .nilptr r0.1 r0.1 n2 0) r0.2).bind fun r3 => zgf r3.1 (fun i3 => if i3 = 0 then ((jd Try.prog .len [50] [(List.getD r3.2.1 3 .undef)]).bind fun v4 => asInt .i64 v4 fun n5 => some ((.int .i64 n5),r3.2.2)) else (none)) (none) := by kernel_rfl
theorem z2m (C : z7) (L : xg) (σ : Store) (a1 : Int) : qa cfg C L 15 [.nilptr,(.int .i64 a1)] σ =
  (zi cfg C 38 [.nilptr] σ).bind fun r0 => asBool r0.1 fun b1 => if (!b1) = true then (some ((.int .i64 3),r0.2)) else ((zj Try.prog 49 .nilptr 2).bind fun v2 => (zd Try.prog r0.2 47 v2).bind fun v3 => (js Try.prog r0.2 47 v3 (.int .i64 a1) false).bind fun v4 => (j9 Try.prog .eql 89 v4 .nilptr).bind fun v5 => asBool v5 fun b6 => if b6 = true then (some ((.int .i64 3),r0.2)) else ((zj Try.prog 49 .nilptr 2).bind fun v7 => (zd Try.prog r0.2 47 v7).bind fun v8 => (js Try.prog r0.2 47 v8 (.int .i64 a1) false).bind fun v9 => (zc2 v9).bind fun v10 => (zj Try.prog 92 v10 1).bind fun v11 => (zd Try.prog r0.2 4 v11).bind fun v12 => asBool v12 fun b13 => if b13 = true then ((zi cfg C 41 [.nilptr,(.int .i64 a1),v9] r0.2).bind fun r14 => (zj Try.prog 49 .nilptr 1).bind fun v15 => (zd Try.prog r14.2 46 v15).bind fun v16 => (zi cfg C 42 [v16,(.int .i64 a1)] r14.2).bind fun r17 => (ka r17.1 0).bind fun v18 => (ka r17.1 1).bind fun v19 => asInt .i64 v19 fun n20 => (zj Try.prog 49 .nilptr 1).bind fun v21 => (zu Try.prog r17.2 46 v21 v18).bind fun s22 => (zj Try.prog 49 .nilptr 2).bind fun v23 => (zd Try.prog s22 47 v23).bind fun v24 => (y7 Try.prog s22 .delete [47,3] [v24,(.int .i64 a1)]).bind fun r25 => some ((.int .i64 0),r25.2)) else ((zj Try.prog 49 .nilptr 1).bind fun v26 => (zd Try.prog r0.2 46 v26).bind fun v27 => (zi cfg C 42 [v27,(.int .i64 a1)] r0.2).bind fun r28 => (ka r28.1 0).bind fun v29 => (ka r28.1 1).bind fun v30 => asInt .i64 v30 fun n31 => (zj Try.prog 49 .nilptr 1).bind fun v32 => (zu Try.prog r28.2 46 v32 v29).bind fun s33 => (zj Try.prog 49 .nilptr 2).bind fun v34 => (zd Try.prog s33 47 v34).bind fun v35 => (y7 Try.prog s33 .delete [47,3] [v35,(.int .i64 a1)]).bind fun r36 => some ((.int .i64 0),r36.2)))) := by kernel_rfl
theorem z2l (C : z7) (L : xg) (σ : Store) (a1 : Int) : qa cfg C L 16 [.nilptr,(.int .i64 a1)] σ =
  (zi cfg C 39 [.nilptr,(.int .i64 a1)] σ).bind fun r0 => (j9 Try.prog .eql 89 r0.1 .nilptr).bind fun v1 => asBool v1 fun b2 => if b2 = true then (some ((.tuple [.nilsl,(.int .i64 3)]),r0.2)) else ((zc2 r0.1).bind fun v3 => (zj Try.prog 92 v3 0).bind fun v4 => (zd Try.prog r0.2 33 v4).bind fun v5 => (zi cfg C 40 [v5] r0.2).bind fun r6 => some ((.tuple [r6.1,(.int .i64 0)]),r6.2)) := by kernel_rfl
theorem z2k (C : z7) (L : xg) (σ : Store)  : qa cfg C L 17 [.nilptr] σ =
  (zi cfg C 38 [.nilptr] σ).bind fun r0 => asBool r0.1 fun b1 => if b1 = true then ((zj Try.prog 49 .nilptr 0).bind fun v2 => (zd Try.prog r0.2 23 v2).bind fun v3 => (zi cfg C 34 [v3] r0.2).bind fun r4 => (ka r4.1 0).bind fun v5 => asInt .i64 v5 fun n6 => (ka r4.1 1).bind fun v7 => (jd Try.prog .len [33] [v7]).bind fun v8 => asInt .i64 v8 fun n9 => (zj Try.prog 49 .nilptr 3).bind fun v10 => (zu Try.prog r4.2 3 v10 (.int .i64 (IntKind.wrap .i64 (n6 + n9)))).bind fun s11 => some ((.tuple []),s11)) else (some ((.tuple []),r0.2)) := by kernel_rfl
theorem z2j (C : z7) (L : xg) (σ : Store)  : qa cfg C L 18 [.nilptr] σ =
  (zi cfg C 38 [.nilptr] σ).bind fun r0 => asBool r0.1 fun b1 => if (!b1) = true then (some (.nilsl,r0.2)) else ((zj Try.prog 49 .nilptr 2).bind fun v2 => (zd Try.prog r0.2 47 v2).bind fun v3 => (zi cfg C 44 [v3] r0.2).bind fun r4 => (zi cfg C 43 [r4.1] r4.2).bind fun r5 => some (r5.1,r5.2)) := by kernel_rfl
theorem z2i (C : z7) (L : xg) (σ : Store)  : qa cfg C L 19 [.nilptr] σ =
  (zd Try.prog (Store.push σ (.cells 0 [[.nilptr]])) 27 (.ref (Store.next σ) 0 0)).bind fun v0 => (zi cfg C 18 [v0] (Store.push σ (.cells 0 [[.nilptr]]))).bind fun r1 => (zi cfg C 45 [r1.1,(.func 46 [(.ref (Store.next σ) 0 0)])] r1.2).bind fun r2 => some (r2.1,r2.2) := by kernel_rfl
theorem z2h (C : z7) (L : xg) (σ : Store)  : qa cfg C L 37 [.nilptr] σ =
  (j9 Try.prog .eql 23 .nilptr .nilptr).bind fun v0 => asBool v0 fun b1 => if b1 = true then (some ((.int .i64 0),σ)) else ((zj Try.prog 57 .nilptr 0).bind fun v2 => (zj Try.prog 53 v2 0).bind fun v3 => (zd Try.prog σ 33 v3).bind fun v4 => (jd Try.prog .len [33] [v4]).bind fun v5 => asInt .i64 v5 fun n6 => some ((.int .i64 (IntKind.wrap .i64 (Int.tdiv n6 512))),σ)) := by kernel_rfl
theorem z2g (C : z7) (L : xg) (σ : Store)  : qa cfg C L 38 [.nilptr] σ =
  (j9 Try.prog .neq 27 .nilptr .nilptr).bind fun v0 => asBool v0 fun b1 => if b1 = true then ((zj Try.prog 49 .nilptr 0).bind fun v2 => (zd Try.prog σ 23 v2).bind fun v3 => (j9 Try.prog .neq 23 v3 .nilptr).bind fun v4 => asBool v4 fun b5 => some ((.bool b5),σ)) else (some ((.bool false),σ)) := by kernel_rfl
theorem z2f (C : z7) (L : xg) (σ : Store) (a1 : Int) : qa cfg C L 39 [.nilptr,(.int .i64 a1)] σ =
  (zi cfg C 38 [.nilptr] σ).bind fun r0 => asBool r0.1 fun b1 => if (!b1) = true then (some (.nilptr,r0.2)) else (if (decide (a1 < 0)) = true then (some (.nilptr,r0.2)) else ((zj Try.prog 49 .nilptr 0).bind fun v2 => (zd Try.prog r0.2 23 v2).bind fun v3 => (zi cfg C 37 [v3] r0.2).bind fun r4 => asInt .i64 r4.1 fun n5 => if (decide (a1 ≥ n5)) = true then (some (.nilptr,r4.2)) else ((zj Try.prog 49 .nilptr 1).bind fun v6 => (zd Try.prog r4.2 46 v6).bind fun v7 => (zi cfg C 64 [v7,(.int .i64 a1)] r4.2).bind fun r8 => (ka r8.1 0).bind fun v9 => (ka r8.1 1).bind fun v10 => asInt .i64 v10 fun n11 => (ka r8.1 2).bind fun v12 => asInt .i64 v12 fun n13 => (ka r8.1 3).bind fun v14 => asInt .i64 v14 fun n15 => (zu Try.prog (Store.push r8.2 (.cells 0 [[.nilsl,(.int .i64 0)]])) 46 (.ref (Store.next r8.2) 0 0) v9).bind fun s16 => if (n15 != 0) = true then (some (.nilptr,s16)) else ((zd Try.prog s16 46 (.ref (Store.next r8.2) 0 0)).bind fun v17 => (zj Try.prog 49 .nilptr 1).bind fun v18 => (zu Try.prog s16 46 v18 v17).bind fun s19 => (zj Try.prog 49 .nilptr 2).bind fun v20 => (zd Try.prog s19 47 v20).bind fun v21 => (js Try.prog s19 47 v21 (.int .i64 n13) false).bind fun v22 => (j9 Try.prog .neq 89 v22 .nilptr).bind fun v23 => asBool v23 fun b24 => if b24 = true then ((zc2 v22).bind fun v25 => (zj Try.prog 92 v25 1).bind fun v26 => (zd Try.prog s19 4 v26).bind fun v27 => asBool v27 fun b28 => if b28 = true then ((zi cfg C 41 [.nilptr,(.int .i64 n13),v22] s19).bind fun r29 => (zj Try.prog 49 .nilptr 2).bind fun v30 => (zd Try.prog r29.2 47 v30).bind fun v31 => (y7 Try.prog r29.2 .delete [47,3] [v31,(.int .i64 n13)]).bind fun r32 => (zj Try.prog 49 .nilptr 2).bind fun v33 => (zd Try.prog r32.2 47 v33).bind fun v34 => (js Try.prog r32.2 47 v34 (.int .i64 a1) false).bind fun v35 => (j9 Try.prog .eql 89 v35 .nilptr).bind fun v36 => asBool v36 fun b37 => if b37 = true then ((zj Try.prog 49 .nilptr 0).bind fun v38 => (zd Try.prog r32.2 23 v38).bind fun v39 => (zi cfg C 35 [v39,(.int .i64 a1)] r32.2).bind fun r40 => (ka r40.1 0).bind fun v41 => (ka r40.1 1).bind fun v42 => asInt .i64 v42 fun n43 => (ke (tops v41) r40.2).bind fun s44 => (jz Try.prog 92 [(0,(fz zp r40.2 v41))]).bind fun v45 => if (PV.known v45 = true ∧ (PV.cells v45).length ≠ 0) then ((zj Try.prog 49 .nilptr 2).bind fun v46 => (zd Try.prog (Store.push s44 (.cells 0 [PV.cells v45])) 47 v46).bind fun v47 => (kz Try.prog (Store.push s44 (.cells 0 [PV.cells v45])) 47 v47 (.int .i64 a1) (.ref (Store.next s44) 0 0)).bind fun s48 => some ((.ref (Store.next s44) 0 0),s48)) else none) else (some (v35,r32.2))) else ((zj Try.prog 49 .nilptr 2).bind fun v49 => (zd Try.prog s19 47 v49).bind fun v50 => (y7 Try.prog s19 .delete [47,3] [v50,(.int .i64 n13)]).bind fun r51 => (zj Try.prog 49 .nilptr 2).bind fun v52 => (zd Try.prog r51.2 47 v52).bind fun v53 => (js Try.prog r51.2 47 v53 (.int .i64 a1) false).bind fun v54 => (j9 Try.prog .eql 89 v54 .nilptr).bind fun v55 => asBool v55 fun b56 => if b56 = true then ((zj Try.prog 49 .nilptr 0).bind fun v57 => (zd Try.prog r51.2 23 v57).bind fun v58 => (zi cfg C 35 [v58,(.int .i64 a1)] r51.2).bind fun r59 => (ka r59.1 0).bind fun v60 => (ka r59.1 1).bind fun v61 => asInt .i64 v61 fun n62 => (ke (tops v60) r59.2).bind fun s63 => (jz Try.prog 92 [(0,(fz zp r59.2 v60))]).bind fun v64 => if (PV.known v64 = true ∧ (PV.cells v64).length ≠ 0) then ((zj Try.prog 49 .nilptr 2).bind fun v65 => (zd Try.prog (Store.push s63 (.cells 0 [PV.cells v64])) 47 v65).bind fun v66 => (kz Try.prog (Store.push s63 (.cells 0 [PV.cells v64])) 47 v66 (.int .i64 a1) (.ref (Store.next s63) 0 0)).bind fun s67 => some ((.ref (Store.next s63) 0 0),s67)) else none) else (some (v54,r51.2)))) else ((zj Try.prog 49 .nilptr 2).bind fun v68 => (zd Try.prog s19 47 v68).bind fun v69 => (js Try.prog s19 47 v69 (.int .i64 a1) false).bind fun v70 => (j9 Try.prog .eql 89 v70 .nilptr).bind fun v71 => asBool v71 fun b72 => if b72 = true then ((zj Try.prog 49 .nilptr 0).bind fun v73 => (zd Try.prog s19 23 v73).bind fun v74 => (zi cfg C 35 [v74,(.int .i64 a1)] s19).bind fun r75 => (ka r75.1 0).bind fun v76 => (ka r75.1 1).bind fun v77 => asInt .i64 v77 fun n78 => (ke (tops v76) r75.2).bind fun s79 => (jz Try.prog 92 [(0,(fz zp r75.2 v76))]).bind fun v80 => if (PV.known v80 = true ∧ (PV.cells v80).length ≠ 0) then ((zj Try.prog 49 .nilptr 2).bind fun v81 => (zd Try.prog (Store.push s79 (.cells 0 [PV.cells v80])) 47 v81).bind fun v82 => (kz Try.prog (Store.push s79 (.cells 0 [PV.cells v80])) 47 v82 (.int .i64 a1) (.ref (Store.next s79) 0 0)).bind fun s83 => some ((.ref (Store.next s79) 0 0),s83)) else none) else (some (v70,s19))))))) := by kernel_rfl
def z2c : List PV := [.nilptr,.nilsl,.int .i64 0,.nilmap,.int .i64 0]
def Nob (σ : Store) (x : PV) : Prop := x = .nilptr ∨ ∃ id,x = .ref id 0 0 ∧ σ.objs id = some (.cells 0 [z2c]) ∧ id < σ.next
section
variable {σ τ : Store} {x u : PV} {g g' : Nat → Nat} {a : Ac} {aid : Nat}
theorem Nob.mod (h : Nob σ x) (m : Mod σ τ []) : Nob τ x := by
 rcases h with h | ⟨id,h1,h2,h3⟩
 ·exact .inl h
 ·exact .inr ⟨id,h1,(m.2 id h3 (by simp)).trans h2,Nat.lt_of_lt_of_le h3 m.1⟩
theorem bNilP : j9 Try.prog .neq 27 .nilptr .nilptr = some (.bool false) ∧ j9 Try.prog .eql 27 .nilptr .nilptr = some (.bool true) := ⟨by kernel_rfl,by kernel_rfl⟩
theorem bNilD : j9 Try.prog .neq 23 .nilptr .nilptr = some (.bool false) ∧ j9 Try.prog .eql 23 .nilptr .nilptr = some (.bool true) := ⟨by kernel_rfl,by kernel_rfl⟩
theorem bNilS : j9 Try.prog .neq 89 .nilptr .nilptr = some (.bool false) ∧ j9 Try.prog .eql 89 .nilptr .nilptr = some (.bool true) := ⟨by kernel_rfl,by kernel_rfl⟩
theorem Nob.is {c2 : Cfg} (hm : c2.mode 38 = .pure) (hP : c2.P = Try.prog) (h : Nob σ x) : zi c2 (ze cfg) 38 [x] σ = some (.bool false,σ) := by
 rcases h with rfl | ⟨id,rfl,h2,_⟩
 ·refine w8 hm (by rw [hP]; kernel_rfl) (args' := [.nilptr]) rfl ?_ (.inl rfl)
  have ev := z2g (ze cfg) (y2 cfg) .empty
  rw [bNilP.1,za,zc,if_neg (by decide)] at ev
  exact zl8 (hT _) ev rfl
 ·have e1 : fz zp σ (.ref id 0 0) = .pref [.nilptr,.nilsl,.int .i64 0,fz 7 σ .nilmap,.int .i64 0] := by
   show fz (7 + 1) σ (.ref id 0 0) = _
   unfold fz
   simp only [h2,List.getElem?_cons_zero,List.drop_zero,z2c,List.map_cons,List.map_nil]
   rfl
  refine w8 hm (by rw [hP]; kernel_rfl) (by simp only [List.map_cons,List.map_nil]; rw [e1]) ?_ (.inl rfl)
  have ev := z0r (ze cfg) (y2 cfg) .empty .nilptr .nilsl 0 (fz 7 σ .nilmap) 0
  have b1 : ∀ l,j9 Try.prog .neq 27 (.pref l) .nilptr = some (.bool true) := by intro l; kernel_rfl
  simp only [b1,bNilD.1,za,zc,if_true] at ev
  exact zl8 (hT _) ev rfl
theorem Nob.synced (h : Nob σ x) : zi cfg (ze cfg) 17 [x] σ = some (.tuple [],σ) := by
 have hi := h.is (c2 := cfg) rfl rfl
 rw [zk rfl (by kernel_rfl)]
 rcases h with rfl | ⟨id,rfl,h2,_⟩
 ·have ev := z2k (ze cfg) (y2 cfg) σ
  rw [hi,za,zc,if_neg (by decide)] at ev
  exact zf (hT _) ev
 ·have ev := z0x (ze cfg) (y2 cfg) σ id 0 0
  rw [hi,za,zc,if_neg (by decide)] at ev
  exact zf (hT _) ev
theorem Nob.let_ {k : Int} (h : Nob σ x) : zi cfg (ze cfg) 39 [x,.int .i64 k] σ = some (.nilptr,σ) := by
 have hi := h.is (c2 := cfg) rfl rfl
 rw [zk rfl (by kernel_rfl)]
 rcases h with rfl | ⟨id,rfl,h2,_⟩
 ·have ev := z2f (ze cfg) (y2 cfg) σ k
  rw [hi,za,zc,if_pos (by decide)] at ev
  exact zf (hT _) ev
 ·have ev := zxu σ id k
  rw [hi,za,zc,if_pos (by decide)] at ev
  exact zf (hT _) ev
theorem Nob.read {k : Int} (h : Nob σ x) : zi cfg (ze cfg) 16 [x,.int .i64 k] σ = some (.tuple [.nilsl,.int .i64 3],σ) := by
 have hl := h.let_ (k := k)
 rw [zk rfl (by kernel_rfl)]
 rcases h with rfl | ⟨id,rfl,h2,_⟩
 ·have ev := z2l (ze cfg) (y2 cfg) σ k
  rw [hl,za,bNilS.2,za,zc,if_pos (by decide)] at ev
  exact zf (hT _) ev
 ·have ev := zzy (ze cfg) (y2 cfg) σ id 0 0 k
  rw [hl,za,bNilS.2,za,zc,if_pos (by decide)] at ev
  exact zf (hT _) ev
theorem Nob.put {k pl : Int} (h : Nob σ x) : zi cfg (ze cfg) 12 [x,.int .i64 k,u,.int .i64 pl] σ = some (.int .i64 3,σ) := by
 have hi := h.is (c2 := zf2) rfl rfl
 rw [zk rfl (by kernel_rfl)]
 rcases h with rfl | ⟨id,rfl,h2,_⟩
 ·have ev := z2o (ze cfg) (y2 cfg) σ k u pl
  rw [hi,za,zc,if_pos (by decide)] at ev
  exact zf (hT _) ev
 ·have ev := zzz (ze cfg) (y2 cfg) σ id 0 0 k u pl
  rw [hi,za,zc,if_pos (by decide)] at ev
  exact zf (hT _) ev
theorem Nob.evict {k : Int} (h : Nob σ x) : zi cfg (ze cfg) 15 [x,.int .i64 k] σ = some (.int .i64 3,σ) := by
 have hi := h.is (c2 := cfg) rfl rfl
 rw [zk rfl (by kernel_rfl)]
 rcases h with rfl | ⟨id,rfl,h2,_⟩
 ·have ev := z2m (ze cfg) (y2 cfg) σ k
  rw [hi,za,zc,if_pos (by decide)] at ev
  exact zf (hT _) ev
 ·have ev := z0y (ze cfg) (y2 cfg) σ id 0 0 k
  rw [hi,za,zc,if_pos (by decide)] at ev
  exact zf (hT _) ev
theorem Nob.ind (h : Nob σ x) : zi cfg (ze cfg) 18 [x] σ = some (.nilsl,σ) := by
 have hi := h.is (c2 := cfg) rfl rfl
 rw [zk rfl (by kernel_rfl)]
 rcases h with rfl | ⟨id,rfl,h2,_⟩
 ·have ev := z2j (ze cfg) (y2 cfg) σ
  rw [hi,za,zc,if_pos (by decide)] at ev
  exact zf (hT _) ev
 ·have ev := z0w (ze cfg) (y2 cfg) σ id 0 0
  rw [hi,za,zc,if_pos (by decide)] at ev
  exact zf (hT _) ev
theorem z19 (τ1 : Store) (f : PV) : zi cfg (ze cfg) 45 [.nilsl,f] τ1 = some (.nilsl,τ1) := by
 have dn := zzv (ze cfg) (y2 cfg) τ1 .nilsl f
 have inn := zzu (ze cfg) (y2 cfg) τ1 .nilsl f
 have l0 : jd Try.prog .len [50] [.nilsl] = some (.int .i64 0) := by simp [jd,zcw]
 have lp : y2 cfg 72 zi2 (zie .nilsl f 0 0) τ1 = some (.exit 0,zkr,τ1) := by
  refine yi ((zqb _ _ _ _ _ _ _).trans ?_)
  rw [if_neg (by decide)]
 rw [l0,za,zb,lp,za] at inn
 simp only [ya,if_true] at inn
 have cin : zi cfg (ze cfg) 72 [.nilsl,f] τ1 = some (.int .i64 (-1),τ1) := by rw [zk rfl (by kernel_rfl)]; exact zf (hT _) inn
 rw [cin,za,zb,if_pos (by decide)] at dn
 rw [zk rfl (by kernel_rfl)]
 exact zf (hT _) dn
theorem z12 : jd Try.prog .len [50] [.nilsl] = some (.int .i64 0) := by simp [jd,zcw]
theorem Nob.dirty (h : Nob σ x) : ∃ τ,zi cfg (ze cfg) 19 [x] σ = some (.nilsl,τ) ∧ Mod σ τ [] := by
 have m : Mod σ (σ.push (.cells 0 [[x]])) [] := Mod.push _ _ _
 have hi := (h.mod m).ind
 have ld : zd Try.prog (σ.push (.cells 0 [[x]])) 27 (.ref σ.next 0 0) = some x := qc zth (zn _ _) rfl
 rw [zk rfl (by kernel_rfl)]
 rcases h with rfl | ⟨id,rfl,h2,_⟩
 ·have ev := z2i (ze cfg) (y2 cfg) σ
  rw [ld,za,hi,za,z19,za] at ev
  exact ⟨_,zf (hT _) ev,m⟩
 ·have ev := z0v (ze cfg) (y2 cfg) σ id 0 0
  rw [ld,za,hi,za,z19,za] at ev
  exact ⟨_,zf (hT _) ev,m⟩
theorem Nob.flush (h : Nob σ x) : ∃ τ,zi cfg (ze cfg) 14 [x] σ = some (.int .i64 0,τ) ∧ Mod σ τ [] := by
 obtain ⟨τ,h1,m⟩ := h.dirty
 have lp : ∀ x,y2 cfg 14 zmj (zlx x .nilsl .nilsl 0 0) τ = some (.exit 0,zku .nilsl,τ) := fun x => yi ((ztp _ _ _ _ _ _ _ _).trans (by rw [if_neg (by decide)]))
 rw [zk rfl (by kernel_rfl)]
 rcases h with rfl | ⟨id,rfl,h2,_⟩
 ·have ev := z2n (ze cfg) (y2 cfg) σ
  rw [h1,za,z12,za,zb,lp,za,ya,if_pos rfl] at ev
  simp only [out14_3_3] at ev
  rw [z12,za,zb] at ev
  exact ⟨_,zf (hT _) ev,m⟩
 ·have ev := z0z (ze cfg) (y2 cfg) σ id 0 0
  rw [h1,za,z12,za,zb,lp,za,ya,if_pos rfl] at ev
  simp only [out14_3_3] at ev
  rw [z12,za,zb] at ev
  exact ⟨_,zf (hT _) ev,m⟩
def z2b : List PV := [.nilsl,.int .i64 0,.nilsl,.nilsl,.int .i64 0,.nilsl,.nilsl,.nilsl,.int .i64 0,.bool false]
def Nod (σ : Store) (x : PV) : Prop := x = .nilptr ∨ ∃ id,x = .ref id 0 0 ∧ σ.objs id = some (.cells 0 [z2b]) ∧ id < σ.next
theorem Nod.mod (h : Nod σ x) (m : Mod σ τ []) : Nod τ x := by
 rcases h with h | ⟨id,h1,h2,h3⟩
 ·exact .inl h
 ·exact .inr ⟨id,h1,(m.2 id h3 (by simp)).trans h2,Nat.lt_of_lt_of_le h3 m.1⟩
theorem z2a : jd Try.prog .len [33] [.nilsl] = some (.int .i64 0) := (IsS.nil (R := RB)).len TB
theorem Nod.pages {c2 : Cfg} (hm : c2.mode 37 = .pure) (hP : c2.P = Try.prog) (h : Nod σ x) : zi c2 (ze cfg) 37 [x] σ = some (.int .i64 0,σ) := by
 rcases h with rfl | ⟨id,rfl,h2,_⟩
 ·refine w8 hm (by rw [hP]; kernel_rfl) (args' := [.nilptr]) rfl ?_ (.inl rfl)
  have ev := z2h (ze cfg) (y2 cfg) .empty
  rw [bNilD.2,za,zc,if_pos (by decide)] at ev
  exact zl8 (hT _) ev rfl
 ·have e1 : fz zp σ (.ref id 0 0) = .pref z2b := by
   show fz (7 + 1) σ (.ref id 0 0) = _
   unfold fz
   simp only [h2,List.getElem?_cons_zero,List.drop_zero,z2b,List.map_cons,List.map_nil]
   rfl
  refine w8 hm (by rw [hP]; kernel_rfl) (by simp only [List.map_cons,List.map_nil]; rw [e1]) ?_ (.inl rfl)
  have ev := z0s (ze cfg) (y2 cfg) .empty .nilsl 0 .nilsl .nilsl 0 .nilsl .nilsl .nilsl 0 false
  have b1 : ∀ l,j9 Try.prog .eql 23 (.pref l) .nilptr = some (.bool false) := by intro l; kernel_rfl
  rw [b1,za,zc,if_neg (by decide),z2a,za,zb] at ev
  exact zl8 (hT _) ev rfl
theorem Nod.new (h : Nod σ x) : ∃ τ,zi cfg (ze cfg) 9 [x,.int .i64 1] σ = some (.tuple [.nilptr,.int .i64 1],τ) ∧ Mod σ τ [] := by
 obtain ⟨vs,c1,c2⟩ := zxz (c2 := cfg) rfl rfl 1 σ
 have e1 : (zdx 1).2 = 0 := by unfold zdx; rw [if_neg (by omega)]
 rw [e1] at c1
 have ho : ∀ x ∈ [vs,.int .i64 (zdx 1).1.h],x.plain = true := fun x hx => by
  rcases List.mem_cons.1 hx with rfl | hx
  ·exact c2.plain
  ·rw [List.mem_singleton.1 hx]; rfl
 have s1 : zu Try.prog (Store.push σ (.cells 0 [[.nilsl,(.int .i64 0)]])) 46 (.ref (Store.next σ) 0 0) (.agg [vs,.int .i64 (zdx 1).1.h]) = some (σ.push (.cells 0 [[vs,.int .i64 (zdx 1).1.h]])) := zne zyd rfl rfl (ww ho)
 have m : Mod σ (σ.push (.cells 0 [[vs,.int .i64 (zdx 1).1.h]])) [] := Mod.push _ _ _
 have pg := (h.mod m).pages (c2 := cfg) rfl rfl
 rw [zk rfl (by kernel_rfl)]
 rcases h with rfl | ⟨id,rfl,h2,_⟩
 ·have ev := z2p (ze cfg) (y2 cfg) σ 1
  rw [c1,za,uo,za,un,za,zb,s1,za,if_neg (by decide),pg,za,zb,if_pos (by decide)] at ev
  exact ⟨_,zf (hT _) ev,m⟩
 ·have ev := eq9 (ze cfg) (y2 cfg) σ id 0 0 1
  rw [c1,za,uo,za,un,za,zb,s1,za,if_neg (by decide),pg,za,zb,if_pos (by decide)] at ev
  exact ⟨_,zf (hT _) ev,m⟩
theorem faA (i : Nat) : zj Try.prog 36 (.ref i 0 0) 2 = some (.ref i 0 (0 + 2)) ∧ zj Try.prog 36 (.ref i 0 0) 3 = some (.ref i 0 (0 + 3)) := ⟨by kernel_rfl,by kernel_rfl⟩
theorem BoxA.mod (h : BoxA g σ aid a) (m : Mod σ τ []) : BoxA g τ aid a :=
 let ⟨u,v,h1,h2⟩ := h.ob
 ⟨h.g11,Nat.lt_of_lt_of_le h.lt m.1,u,v,(m.2 _ h.lt (by simp)).trans h1,h2⟩
theorem z2e : ∀ (k i : Nat) (σ : Store),i + k = 2 → BoxA g σ aid a → ∃ τ,y2 cfg 4 z17 (z15 (.ref aid 0 0) (i : Nat)) σ = some (.exit 0,z16 (.ref aid 0 0),τ) ∧ BoxA g τ aid a := by
 intro k
 induction k with
 | zero =>
   intro i σ hi hx
   refine ⟨σ,yi ((z2d _ _ _ _ _).trans ?_),hx⟩
   rw [if_neg (by rw [decide_eq_true_eq]; omega)]
 | succ k ih =>
   intro i σ hi hx
   have ev := z2d (ze cfg) (y2 cfg) σ (.ref aid 0 0) (i : Nat)
   rw [if_pos (by rw [decide_eq_true_eq]; omega)] at ev
   have wi := y6 (show i < 4611686018427387904 by omega)
   by_cases c : ((((i : Nat) : Int)) == 1) = true
   ·have m0 : Mod σ (σ.push (.cells 0 [z2c])) [] := Mod.push _ _ _
    have hN : Nob (σ.push (.cells 0 [z2c])) (.ref σ.next 0 0) := .inr ⟨_,rfl,zn _ _,Nat.lt_succ_self _⟩
    have x0 := hx.mod m0
    obtain ⟨u,b1,_⟩ := x0.bb
    obtain ⟨τ1,f1,m1⟩ := hN.flush
    have hN1 := hN.mod m1
    obtain ⟨τ2,d1,m2⟩ := hN1.dirty
    obtain ⟨τ,r1,r2⟩ := ih (i + 1) τ2 (by omega) ((x0.mod m1).mod m2)
    have m0e : σ.push (.cells 0 [[.nilptr,.nilsl,(.int .i64 0),.nilmap,(.int .i64 0)]]) = σ.push (.cells 0 [z2c]) := rfl
    rw [if_pos c,m0e,hN.synced,za,hN.read,za,uo,za,un,za,zb,if_neg (by decide),(faA _).1,za,b1,za,hN.put,za,zb,if_neg (by decide),f1,za,zb,if_neg (by decide),hN1.evict,za,zb,if_neg (by decide),hN1.ind,za,z12,za,zb,if_neg (by decide),d1,za,z12,za,zb,if_neg (by decide),wi] at ev
    exact ⟨τ,yi (ev.trans r1),r2⟩
   ·have hN : Nob σ .nilptr := .inl rfl
    obtain ⟨u,b1,_⟩ := hx.bb
    obtain ⟨τ1,f1,m1⟩ := hN.flush
    have hN1 := hN.mod m1
    obtain ⟨τ2,d1,m2⟩ := hN1.dirty
    obtain ⟨τ,r1,r2⟩ := ih (i + 1) τ2 (by omega) ((hx.mod m1).mod m2)
    rw [if_neg c,hN.synced,za,hN.read,za,uo,za,un,za,zb,if_neg (by decide),(faA _).1,za,b1,za,hN.put,za,zb,if_neg (by decide),f1,za,zb,if_neg (by decide),hN1.evict,za,zb,if_neg (by decide),hN1.ind,za,z12,za,zb,if_neg (by decide),d1,za,z12,za,zb,if_neg (by decide),wi] at ev
    exact ⟨τ,yi (ev.trans r1),r2⟩
end
theorem spNobody (a : Ac) {e : List PV} (he : RA e a) : ∃ τ,ze cfg 4 [.agg e] .empty = some (.bool true,τ) := by
 obtain ⟨u,v,rfl,hu,hv⟩ := he
 have ev := eq4 (ze cfg) (y2 cfg) .empty a.d a.g u a.n v
 have hx : BoxA (fun _ => 11) (Store.empty.push (.cells 0 [[.int .i64 a.d,.int .i64 a.g,u,.int .i64 a.n,v]])) Store.empty.next a := ⟨rfl,Nat.lt_succ_self _,u,v,zn _ _,hu,hv⟩
 generalize Store.empty.push (.cells 0 [[.int .i64 a.d,.int .i64 a.g,u,.int .i64 a.n,v]]) = σ0 at ev hx
 generalize Store.empty.next = aid at ev hx
 obtain ⟨τ1,l1,x1⟩ := z2e 2 0 σ0 (by omega) hx
 rw [zp3] at l1
 obtain ⟨g2,τ2,n1,n2,n3⟩ := zyj (P := 1) (by omega) (fun _ => 11) τ1
 have iv := Inv.new (P := 1) (by omega)
 have x2 := x1.out n3.toP
 have n1' : zi cfg (ze cfg) 8 [.int .i64 1] τ1 = some (.tuple [.ref (τ1.next + 2) 0 0,.int .i64 0],τ2) := by rw [zk rfl (by kernel_rfl)]; exact n1
 generalize τ1.next + 2 = did at n1' n2
 obtain ⟨τ3,p1,m3⟩ := Nod.new (σ := τ2) (x := .nilptr) (.inl rfl)
 have x3 := x2.mod m3
 have d3 := n2.mod m3 (fun j hj _ => by cases hj)
 have m4 : Mod τ3 (τ3.push (.cells 0 [z2b])) [] := Mod.push _ _ _
 obtain ⟨τ4,q1,m5⟩ := Nod.new (σ := τ3.push (.cells 0 [z2b])) (x := .ref τ3.next 0 0) (.inr ⟨_,rfl,zn _ _,Nat.lt_succ_self _⟩)
 have x4 := (x3.mod m4).mod m5
 have d4 := (d3.mod m4 (fun j hj _ => by cases hj)).mod m5 (fun j hj _ => by cases hj)
 have m4e : τ3.push (.cells 0 [[.nilsl,(.int .i64 0),.nilsl,.nilsl,(.int .i64 0),.nilsl,.nilsl,.nilsl,(.int .i64 0),(.bool false)]]) = τ3.push (.cells 0 [z2b]) := rfl
 rw [l1,za,ya,if_pos rfl,n1',za,uo,za,un,za,zb,p1,za,uo,za,un,za,zb,m4e,q1,za,uo,za,un,za,zb] at ev
 simp only [out4_2_1] at ev
 rw [(faA _).2,za,x4.nn,za,zb] at ev
 by_cases c : 1 ≤ a.n ∧ a.n ≤ 64
 ·obtain ⟨g5,τ5,pid,mid,r1,r2,r3,r4⟩ := zwd d4 iv.hP iv.pl (by show ([] : By).length ≤ _; exact Nat.zero_le _) c
  have r1' : zi cfg (ze cfg) 9 [.ref did 0 0,.int .i64 a.n] τ4 = some (.tuple [.ref pid 0 0,.int .i64 0],τ5) := by rw [zk rfl (by kernel_rfl)]; exact r1
  have x5 := x4.out r4
  rw [r1',za,uo,za,un,za,zb,za,x5.nn,za,zb,if_pos (by rw [decide_eq_true_eq]; omega),za,x5.nn,za,zb,if_pos (by decide),if_pos (by decide),decide_eq_true c.2,if_pos (by decide),(zp2 _ _ _).1,za,zc,if_pos (by decide),zrc rfl rfl,za,zc] at ev
  exact ⟨_,zf (hT _) ev⟩
 ·obtain ⟨g5,τ5,r1,r2,r3⟩ := z18 d4 (n := a.n) (by omega)
  have r1' : zi cfg (ze cfg) 9 [.ref did 0 0,.int .i64 a.n] τ4 = some (.tuple [.nilptr,.int .i64 1],τ5) := by rw [zk rfl (by kernel_rfl)]; exact r1
  have x5 := x4.out r3.toP
  rw [r1',za,uo,za,un,za,zb,za,x5.nn,za,zb] at ev
  by_cases c1 : 1 ≤ a.n
  ·rw [if_pos (by rw [decide_eq_true_eq]; omega),za,x5.nn,za,zb,if_pos (by decide),if_pos (by decide),decide_eq_false (show ¬ a.n ≤ 64 by omega),if_pos (by decide),bNilP.1,za,zc,if_pos (by decide),zrc rfl rfl,za,zc] at ev
   exact ⟨_,zf (hT _) ev⟩
  ·rw [if_neg (by rw [decide_eq_true_eq]; omega),if_pos (by decide),if_pos (by decide),if_pos (by decide),bNilP.1,za,zc,if_pos (by decide),zrc rfl rfl,za,zc] at ev
   exact ⟨_,zf (hT _) ev⟩
end Go.Pvm.S
