/- Part of the proof: the law of reading. -/
import Derived.Test.YtceokplopachgaaPolQ
set_option linter.unusedSimpArgs false
set_option linter.unusedVariables false
set_option maxRecDepth 100000
namespace Go.Pvm.S
open Go.Pvm Go.Proofs
theorem zvj {c2 : Cfg} (hm : c2.mode 10 = .pure) (hP : c2.P = Try.prog) {y : PV} {l : List Ac} (hy : VF (.psl false (l.map Ac.e)) y) (hl : l.length < 4611686018427387904) (σ : Store) : ∃ b : Bool,zi c2 (ze cfg) 10 [y] σ = some (.bool b,σ) := by
 obtain ⟨b,hb⟩ := zuc l hl
 have hyp := (VF.acts hy).plain
 obtain ⟨p,h1,h2⟩ := zq7 (c2 := c2) hm hP (by kernel_rfl) hb (.cons hy .nil) (fun σ => by have := vo (e := [y]) (fun c hc => by rw [List.mem_singleton.1 hc]; exact hyp) 7 σ; exact this) (zu1 fun c hc => by rw [List.mem_singleton.1 hc]; exact hyp) σ
 rw [h2.base_eq rfl] at h1
 exact ⟨b,h1⟩
section
variable {n w did pid mid wid : Nat} {g g' : Nat → Nat} {σ τ s : Store} {p : Po} {a1 : PV}
end
end Go.Pvm.S
set_option linter.unusedSimpArgs false
set_option linter.unusedVariables false
set_option maxRecDepth 100000
namespace Go.Pvm.S
open Go.Pvm Go.Proofs
section
variable {P n w t : Nat} {T : Int} {did pid mid x i : Nat} {g g' : Nat → Nat} {σ τ s : Store} {p : Po} {u a1 v : PV} {b : By} {a : Ac} {l : List Ac}
theorem z1e (p : Po) : p.ins.Perm (p.m.map (·.1)) := List.mergeSort_perm _ _
theorem z1n {P n : Nat} {T : Int} (h : PoA P n T p) {k : Int} (hk : k ∈ p.ins) : PoA P n T (p.wrk k) ∧ (p.wrk k).ins = p.ins ∧ ∀ j ∈ p.ins,(p.wrk k).dty j = if j = k then false else p.dty j := by
 have hk' : k ∈ p.m.map (·.1) := (z1e p).mem_iff.1 hk
 obtain ⟨⟨k',x⟩,hx,rfl⟩ := List.mem_map.1 hk'
 obtain ⟨h1,_,h3,h4⟩ := h.wrk hx
 have hi : (p.wrk k').ins = p.ins := by unfold Po.ins; rw [h4]
 refine ⟨h1,hi,fun j hj => ?_⟩
 obtain ⟨⟨j',y⟩,hy,rfl⟩ := List.mem_map.1 ((z1e p).mem_iff.1 hj)
 obtain ⟨z,z1,z2,z3⟩ := h3 _ hy
 have dt : ∀ {q : Po} {a : Int} {s : Sh},(q.m.map (·.1)).Nodup → (a,s) ∈ q.m → q.dty a = s.dirty := fun {q a s} hn hm => by
  obtain ⟨i,hi⟩ := List.mem_iff_getElem?.1 hm
  have hil := (List.getElem?_eq_some_iff.1 hi).1
  have he : q.m[i] = (a,s) := (List.getElem?_eq_some_iff.1 hi).2
  have hp := zcz hn hil (by rw [he])
  unfold Po.dty
  rw [hp]
  show (q.m.getD i (0,⟨[],false,0⟩)).2.dirty = s.dirty
  rw [List.getD_eq_getElem?_getD,hi]
  rfl
 show (p.wrk k').dty j' = if j' = k' then false else p.dty j'
 rw [dt h1.k.nd z1,dt h.k.nd hy]
 by_cases e : j' = k'
 ·rw [if_pos e]; exact z3 e
 ·rw [if_neg e,z2 e]
theorem St.mod (h : St P n w t T did pid mid g σ p) (m : Mod σ τ []) : St P n w t T did pid mid g τ p := by
 obtain ⟨vs,ids,r⟩ := h.r
 exact ⟨h.d.mod m fun j hj _ => by (cases hj),⟨vs,ids,r.mod m fun _ _ => rfl⟩,h.a,h.l⟩
theorem fa1 (a b c d e : PV) : zj Try.prog 36 (.pref [a,b,c,d,e]) 1 = some (.pref [b,c,d,e]) := by kernel_rfl
end
end Go.Pvm.S
