/- Part of the proof: what a row's arguments are, for steps. -/
import Derived.Test.YtjfgklgcbogejaaGreatCrtJ
import Derived.Test.YtjfgklgcbogejaaGreatCrtS
import Derived.Test.YtjfgklgcbogejaaGreatQ2
import Derived.Test.YtjfgklgcbogejaaGreatRows
set_option linter.unusedSimpArgs false
set_option linter.unusedVariables false
set_option maxRecDepth 100000
namespace Go.Pvm.S
open Go.Pvm Go.Proofs
theorem z7t : ArgK Tryz.prog 29 (fun q : Wd => [.float .f64 q.toNat]) (fun _ => True) := fun top n c h => by
 have hu : Tryz.prog.underlying 29 = some (.float .f64) := by kernel_rfl
 cases n with
 | zero => exact h.elim
 | succ n =>
   unfold WT at h
   rw [hu] at h
   obtain ⟨x,rfl,hx⟩ := h
   have hx' : x < 2 ^ 64 := of_decide_eq_true hx
   refine ⟨BitVec.ofNat 64 x,?_,trivial⟩
   show VFs [.float .f64 (BitVec.ofNat 64 x).toNat] _
   rw [BitVec.toNat_ofNat,Nat.mod_eq_of_lt hx']
   exact .cons (.base _ rfl) .nil
theorem z48 : ArgK Tryz.prog 3 ie (fun n => (-9223372036854775808 : Int) ≤ n ∧ n ≤ 9223372036854775807) := ArgK.int (k := .i64) (by kernel_rfl)
noncomputable def fsL : Array Field := match Tryz.prog.underlying 31 with | some (.struct fs) => fs | _ => #[]
theorem uL : Tryz.prog.underlying 31 = some (.struct fsL) := by kernel_rfl
theorem z8h : ArgK Tryz.prog 31 St.e (fun _ => True) := fun top n c h => by
 obtain ⟨m,parts,rfl,hl,hp⟩ := zsm uL h
 have hs : fsL.size = 4 := by kernel_rfl
 rw [hs] at hl
 have f0 : (fsL[0]?).map (·.type) = some 3 := by kernel_rfl
 have f1 : (fsL[1]?).map (·.type) = some 3 := by kernel_rfl
 have f2 : (fsL[2]?).map (·.type) = some 29 := by kernel_rfl
 have f3 : (fsL[3]?).map (·.type) = some 29 := by kernel_rfl
 match parts,hl with
 | [a,b,c,d],_ =>
   obtain ⟨x0,e0,t0⟩ := Option.map_eq_some_iff.1 f0
   obtain ⟨x1,e1,t1⟩ := Option.map_eq_some_iff.1 f1
   obtain ⟨x2,e2,t2⟩ := Option.map_eq_some_iff.1 f2
   obtain ⟨x3,e3,t3⟩ := Option.map_eq_some_iff.1 f3
   have w0 := (hp 0 x0 a e0 rfl).2
   have w1 := (hp 1 x1 b e1 rfl).2
   have w2 := (hp 2 x2 c e2 rfl).2
   have w3 := (hp 3 x3 d e3 rfl).2
   rw [t0] at w0; rw [t1] at w1; rw [t2] at w2; rw [t3] at w3
   obtain ⟨s,v0,_⟩ := z48 _ _ _ w0
   obtain ⟨n,v1,_⟩ := z48 _ _ _ w1
   obtain ⟨q,v2,_⟩ := z7t _ _ _ w2
   obtain ⟨r,v3,_⟩ := z7t _ _ _ w3
   refine ⟨⟨s,n,q,r⟩,?_,trivial⟩
   show VFs (ie s ++ (ie n ++ ([.float .f64 q.toNat] ++ [.float .f64 r.toNat]))) (a ++ (b ++ (c ++ (d ++ []))))
   rw [List.append_nil]
   exact v0.append (v1.append (v2.append v3))
theorem z7b : 1 ≤ Tryz.prog.bytesOf 31 := by rw [show Tryz.prog.bytesOf 31 = 32 from by kernel_rfl]; decide
theorem z7g : ArgK Tryz.prog 22 (fun l : List St => [.psl false (l.map St.e)]) (fun l => l.length * Tryz.prog.bytesOf 31 ≤ reachBytes ∧ ∀ a ∈ l,True) := ArgK.slice (by kernel_rfl) (by rw [show Tryz.prog.cellsOf 31 = 4 from by kernel_rfl]; decide) z8h
theorem argStps {x : PV} (h : WTV Tryz.prog 22 x) : ∃ l : List St,VF (.psl false (l.map St.e)) x ∧ l.length < 4611686018427387904 := by
 obtain ⟨l,h1,h2,_⟩ := ArgK.one (e := fun l : List St => .psl false (l.map St.e)) z7g (by kernel_rfl) h
 refine ⟨l,h1,?_⟩
 have := z0r
 have := Nat.mul_le_mul_left l.length z7b
 omega
end Go.Pvm.S
