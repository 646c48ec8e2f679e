/- Part of the proof: the law of reading. -/
import Derived.Test.YtceokplopachgaaPolP
set_option linter.unusedSimpArgs false
set_option linter.unusedVariables false
set_option maxRecDepth 100000
namespace Go.Pvm.S
open Go.Pvm Go.Proofs
theorem zvj {c2 : Cfg} (hm : c2.mode 10 = .pure) (hP : c2.P = Try.prog) {y : PV} {l : List Ac} (hy : VF (.psl false (l.map Ac.e)) y) (hl : l.length < 4611686018427387904) (σ : Store) : ∃ b : Bool,zi c2 (ze cfg) 10 [y] σ = some (.bool b,σ) := by
 obtain ⟨b,hb⟩ := zuc l hl
 have hyp := (VF.acts hy).plain
 obtain ⟨p,h1,h2⟩ := zq7 (c2 := c2) hm hP (by kernel_rfl) hb (.cons hy .nil) (fun σ => by have := vo (e := [y]) (fun c hc => by rw [List.mem_singleton.1 hc]; exact hyp) 7 σ; exact this) (zu1 fun c hc => by rw [List.mem_singleton.1 hc]; exact hyp) σ
 rw [h2.base_eq rfl] at h1
 exact ⟨b,h1⟩
section
variable {n w did pid mid wid : Nat} {g g' : Nat → Nat} {σ τ s : Store} {p : Po} {a1 : PV}
end
theorem zva {n : Int} (h : 0 ≤ n ∧ n ≤ 255) : ∃ m : Int,IntKind.wrap .i64 (1 + IntKind.wrap .i64 (Int.tmod n 6)) = m ∧ 1 ≤ m ∧ m ≤ 6 := by
 obtain ⟨k,rfl⟩ : ∃ k : Nat,n = (k : Nat) := ⟨n.toNat,by omega⟩
 have hm : ((k : Nat) : Int).tmod 6 = ((k % 6 : Nat) : Int) := rfl
 refine ⟨((k % 6 : Nat) : Int) + 1,?_,by omega,by omega⟩
 rw [hm,show IntKind.wrap .i64 ((k % 6 : Nat) : Int) = ((k % 6 : Nat) : Int) from q9 (by omega) (by omega),q9 (by omega) (by omega)]
 omega
end Go.Pvm.S
