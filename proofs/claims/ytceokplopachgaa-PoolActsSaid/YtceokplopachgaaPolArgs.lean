/- Part of the proof: what a row's arguments are, for acts. -/
import Derived.Test.YtceokplopachgaaPolM
import Derived.Test.YtceokplopachgaaQ2
import Derived.Test.YtceokplopachgaaRows
set_option linter.unusedSimpArgs false
set_option linter.unusedVariables false
set_option maxRecDepth 100000
namespace Go.Pvm.S
open Go.Pvm Go.Proofs
theorem hTo : zib cfg := hTs
def Aok (a : Ac) : Prop := a.b.length < 4611686018427387904 ∧ a.p.length < 4611686018427387904 ∧ -9223372036854775808 ≤ a.n ∧ a.n ≤ 9223372036854775807
theorem zyx : ArgK Try.prog 3 (fun n : Int => [.int .i64 n]) (fun n => (-9223372036854775808 : Int) ≤ n ∧ n ≤ 9223372036854775807) := ArgK.int (k := .i64) (by kernel_rfl)
theorem zyy : ArgK Try.prog 5 cB (fun _ => True) := fun top n c h => by
 obtain ⟨x,h1,h2,h3⟩ := ArgK.int (P := Try.prog) (t := 5) (k := .u8) (by kernel_rfl) top n c h
 have h2 : (0 : Int) ≤ x := h2
 have h3 : x ≤ 255 := h3
 refine ⟨UInt8.ofNat x.toNat,?_,trivial⟩
 have e : (((UInt8.ofNat x.toNat).toNat : Nat) : Int) = x := by
  rw [UInt8.toNat_ofNat']
  omega
 show VFs [.int .u8 ((UInt8.ofNat x.toNat).toNat : Nat)] c
 rw [e]
 exact h1
theorem zyz : ArgK Try.prog 4 bo (fun _ => True) := fun top n c h => by
 obtain ⟨x,rfl⟩ := zt1 (by kernel_rfl) h
 exact ⟨x,.cons (.base _ rfl) .nil,trivial⟩
theorem byB : Try.prog.bytesOf 5 = 1 := by kernel_rfl
theorem z01 : Try.prog.bytesOf 4 = 1 := by kernel_rfl
theorem zzl : 1 ≤ Try.prog.bytesOf 36 := by rw [show Try.prog.bytesOf 36 = 72 from by kernel_rfl]; decide
theorem zxi : ArgK Try.prog 33 (fun l : By => [.psl false (l.map cB)]) (fun l => l.length * Try.prog.bytesOf 5 ≤ reachBytes ∧ ∀ a ∈ l,True) := ArgK.slice (by kernel_rfl) (by rw [show Try.prog.cellsOf 5 = 1 from by kernel_rfl]; decide) zyy
theorem zxj : ArgK Try.prog 34 (fun l : List Bool => [.psl false (l.map bo)]) (fun l => l.length * Try.prog.bytesOf 4 ≤ reachBytes ∧ ∀ a ∈ l,True) := ArgK.slice (by kernel_rfl) (by rw [show Try.prog.cellsOf 4 = 1 from by kernel_rfl]; decide) zyz
noncomputable def fsA : Array Field := match Try.prog.underlying 36 with | some (.struct fs) => fs | _ => #[]
theorem zz5 : Try.prog.underlying 36 = some (.struct fsA) := by kernel_rfl
theorem z0e : ArgK Try.prog 36 Ac.e Aok := fun top n c h => by
 obtain ⟨m,parts,rfl,hl,hp⟩ := zoy zz5 h
 have hs : fsA.size = 5 := by kernel_rfl
 rw [hs] at hl
 have f0 : (fsA[0]?).map (·.type) = some 3 := by kernel_rfl
 have f1 : (fsA[1]?).map (·.type) = some 3 := by kernel_rfl
 have f2 : (fsA[2]?).map (·.type) = some 33 := by kernel_rfl
 have f3 : (fsA[3]?).map (·.type) = some 3 := by kernel_rfl
 have f4 : (fsA[4]?).map (·.type) = some 34 := by kernel_rfl
 match parts,hl with
 | [a,b,c,d,e],_ =>
   obtain ⟨x0,e0,t0⟩ := hac.1 f0
   obtain ⟨x1,e1,t1⟩ := hac.1 f1
   obtain ⟨x2,e2,t2⟩ := hac.1 f2
   obtain ⟨x3,e3,t3⟩ := hac.1 f3
   obtain ⟨x4,e4,t4⟩ := hac.1 f4
   have w0 := (hp 0 x0 a e0 rfl).2
   have w1 := (hp 1 x1 b e1 rfl).2
   have w2 := (hp 2 x2 c e2 rfl).2
   have w3 := (hp 3 x3 d e3 rfl).2
   have w4 := (hp 4 x4 e e4 rfl).2
   rw [t0] at w0; rw [t1] at w1; rw [t2] at w2; rw [t3] at w3; rw [t4] at w4
   obtain ⟨q0,v0,_⟩ := zyx _ _ _ w0
   obtain ⟨q1,v1,_⟩ := zyx _ _ _ w1
   obtain ⟨q2,v2,z2,_⟩ := zxi _ _ _ w2
   obtain ⟨q3,v3,z3⟩ := zyx _ _ _ w3
   obtain ⟨q4,v4,z4,_⟩ := zxj _ _ _ w4
   rw [byB] at z2
   rw [z01] at z4
   have := zpq
   refine ⟨⟨q0,q1,q2,q3,q4⟩,?_,⟨by show q2.length < _; omega,by show q4.length < _; omega,z3.1,z3.2⟩⟩
   show VFs ([.int .i64 q0] ++ ([.int .i64 q1] ++ ([.psl false (q2.map cB)] ++ ([.int .i64 q3] ++ [.psl false (q4.map bo)])))) (a ++ (b ++ (c ++ (d ++ (e ++ [])))))
   rw [hbj]
   exact v0.append (v1.append (v2.append (v3.append v4)))
theorem zy0 : ArgK Try.prog 22 (fun l : List Ac => [.psl false (l.map Ac.e)]) (fun l => l.length * Try.prog.bytesOf 36 ≤ reachBytes ∧ ∀ a ∈ l,Aok a) := ArgK.slice (by kernel_rfl) (by rw [show Try.prog.cellsOf 36 = 5 from by kernel_rfl]; decide) z0e
theorem argActs {x : PV} (h : WTV Try.prog 22 x) : ∃ l : List Ac,VF (.psl false (l.map Ac.e)) x ∧ l.length < 4611686018427387904 ∧ ∀ a ∈ l,Aok a := by
 obtain ⟨l,h1,h2,h3⟩ := ArgK.one (e := fun l : List Ac => .psl false (l.map Ac.e)) zy0 (by kernel_rfl) h
 refine ⟨l,h1,?_,h3⟩
 have := zpq
 have := Nat.mul_le_mul_left l.length zzl
 omega
theorem argU8 {v : PV} (h : WTV Try.prog 5 v) : ∃ x,v = .int .u8 x ∧ 0 ≤ x ∧ x ≤ 255 := by
 obtain ⟨x,h1,h2,h3⟩ := zt0 (k := .u8) (by kernel_rfl) h
 exact ⟨x,h1,h2,h3⟩
end Go.Pvm.S
