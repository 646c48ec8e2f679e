/- Part of the proof: what is read is what was put last. -/
import Derived.Test.YtceokplopachgaaPolM
set_option linter.unusedSimpArgs false
set_option linter.unusedVariables false
set_option maxRecDepth 100000
namespace Go.Pvm.S
open Go.Pvm Go.Proofs
structure BoxA (g : Nat → Nat) (σ : Store) (x : Nat) (a : Ac) : Prop where
 g11 : g x = 11
 lt : x < σ.next
 ob : ∃ u v,σ.objs x = some (.cells 0 [[.int .i64 a.d,.int .i64 a.g,u,.int .i64 a.n,v]]) ∧ IsS RB u a.b ∧ IsS RBo v a.p
section
variable {P n w t : Nat} {T : Int} {did pid mid x i : Nat} {g g' : Nat → Nat} {σ τ : Store} {p : Po} {u a1 : PV} {b : By} {a : Ac} {l : List Ac}
theorem BoxA.out (h : BoxA g σ x a) (k : OutP g σ g' τ) : BoxA g' τ x a :=
 let ⟨u,v,h1,h2⟩ := h.ob
 ⟨by rw [k.2.1 x h.lt]; exact h.g11,hao h.lt k.1,u,v,(k.same h.lt (by rw [h.g11]; decide)).trans h1,h2⟩
theorem BoxA.d (h : BoxA g σ x a) : zd Try.prog σ 3 (.ref x 0 (0 + 0)) = some (.int .i64 a.d) := by obtain ⟨u,v,h1,_⟩ := h.ob; exact qc oInt h1 rfl
theorem BoxA.pg (h : BoxA g σ x a) : zd Try.prog σ 3 (.ref x 0 (0 + 1)) = some (.int .i64 a.g) := by obtain ⟨u,v,h1,_⟩ := h.ob; exact qc oInt h1 rfl
theorem BoxA.nn (h : BoxA g σ x a) : zd Try.prog σ 3 (.ref x 0 (0 + 3)) = some (.int .i64 a.n) := by obtain ⟨u,v,h1,_⟩ := h.ob; exact qc oInt h1 rfl
theorem BoxA.bb (h : BoxA g σ x a) : ∃ u,zd Try.prog σ 33 (.ref x 0 (0 + 2)) = some u ∧ IsS RB u a.b := by obtain ⟨u,v,h1,h2,_⟩ := h.ob; exact ⟨u,qc otB h1 rfl,h2⟩
theorem z07 (hl : IsS RA a1 l) (hi : l[i]? = some a) (g : Nat → Nat) (σ : Store) : ∃ e,zh Try.prog 22 a1 (.int .i64 (i : Nat)) = some (.pref e) ∧ zd Try.prog σ 36 (.pref e) = some (.agg e) ∧ zu Try.prog (σ.push (.cells 0 [[.int .i64 0,.int .i64 0,.nilsl,.int .i64 0,.nilsl]])) 36 (.ref σ.next 0 0) (.agg e) = some (σ.push (.cells 0 [e])) ∧ BoxA (tag g σ.next 11) (σ.push (.cells 0 [e])) σ.next a := by
 obtain ⟨e,k1,u,v,rfl,hu,hv⟩ := hl.idx TA okA hi .i64
 have o1 : (σ.push (.cells 0 [[PV.int .i64 0,.int .i64 0,.nilsl,.int .i64 0,.nilsl]])).objs σ.next = some (.cells 0 [[.int .i64 0,.int .i64 0,.nilsl,.int .i64 0,.nilsl]]) := zn _ _
 have e1 : zu Try.prog (σ.push (.cells 0 [[.int .i64 0,.int .i64 0,.nilsl,.int .i64 0,.nilsl]])) 36 (.ref σ.next 0 0) (.agg [.int .i64 a.d,.int .i64 a.g,u,.int .i64 a.n,v]) = some (σ.push (.cells 0 [[.int .i64 a.d,.int .i64 a.g,u,.int .i64 a.n,v]])) := zne zye rfl rfl (ww (plA hu.plain hv.plain _ _ _))
 exact ⟨_,k1,zyw σ _ _ _ _ _,e1,qj (hah _),haw _,u,v,zn _ _,hu,hv⟩
end
section
variable {P n w t : Nat} {T : Int} {did pid mid x i wid : Nat} {g g' : Nat → Nat} {σ τ s : Store} {p : Po} {u a1 : PV} {b : By} {a : Ac} {l : List Ac} {was : List By}
end
end Go.Pvm.S
set_option linter.unusedSimpArgs false
set_option linter.unusedVariables false
set_option maxRecDepth 100000
namespace Go.Pvm.S
open Go.Pvm Go.Proofs
theorem zvj {c2 : Cfg} (hm : c2.mode 10 = .pure) (hP : c2.P = Try.prog) {y : PV} {l : List Ac} (hy : VF (.psl false (l.map Ac.e)) y) (hl : l.length < 4611686018427387904) (σ : Store) : ∃ b : Bool,zi c2 (ze cfg) 10 [y] σ = some (.bool b,σ) := by
 obtain ⟨b,hb⟩ := zuc l hl
 have hyp := (VF.acts hy).plain
 obtain ⟨p,h1,h2⟩ := zq7 (c2 := c2) hm hP (by kernel_rfl) hb (.cons hy .nil) (fun σ => by have := vo (e := [y]) (fun c hc => by rw [ham.1 hc]; exact hyp) 7 σ; exact this) (zu1 fun c hc => by rw [ham.1 hc]; exact hyp) σ
 rw [h2.base_eq rfl] at h1
 exact ⟨b,h1⟩
section
variable {n w did pid mid wid : Nat} {g g' : Nat → Nat} {σ τ s : Store} {p : Po} {a1 : PV}
end
end Go.Pvm.S
set_option linter.unusedSimpArgs false
set_option linter.unusedVariables false
set_option maxRecDepth 100000
namespace Go.Pvm.S
open Go.Pvm Go.Proofs
section
variable {P n w t : Nat} {T : Int} {did pid mid x i : Nat} {g g' : Nat → Nat} {σ τ s : Store} {p : Po} {u a1 v : PV} {b : By} {a : Ac} {l : List Ac}
theorem z1e (p : Po) : p.ins.Perm (p.m.map (·.1)) := List.mergeSort_perm _ _
theorem z1o (p : Po) : p.ins.length = p.m.length := by rw [(z1e p).length_eq,han]
theorem z1s (h : (p.m.map (·.1)).Nodup) : p.ins.Pairwise (· < ·) := by
 have h1 : p.ins.Pairwise fun x y => decide (x ≤ y) = true := List.pairwise_mergeSort (fun a b c h1 h2 => by rw [hbw] at h1 h2 ⊢; omega) (fun a b => by
  rw [Bool.or_eq_true,hbw,hbw]; omega) _
 have h2 : p.ins.Nodup := (z1e p).nodup_iff.2 h
 exact (h1.and h2).imp fun {x y} h => by
  have h3 := h.1
  rw [hbw] at h3
  have h4 : x ≠ y := h.2
  omega
theorem z1n {P n : Nat} {T : Int} (h : PoA P n T p) {k : Int} (hk : k ∈ p.ins) : PoA P n T (p.wrk k) ∧ (p.wrk k).ins = p.ins ∧ ∀ j ∈ p.ins,(p.wrk k).dty j = if j = k then false else p.dty j := by
 have hk' : k ∈ p.m.map (·.1) := (z1e p).mem_iff.1 hk
 obtain ⟨⟨k',x⟩,hx,rfl⟩ := List.mem_map.1 hk'
 obtain ⟨h1,_,h3,h4⟩ := h.wrk hx
 have hi : (p.wrk k').ins = p.ins := by unfold Po.ins; rw [h4]
 refine ⟨h1,hi,fun j hj => ?_⟩
 obtain ⟨⟨j',y⟩,hy,rfl⟩ := List.mem_map.1 ((z1e p).mem_iff.1 hj)
 obtain ⟨z,z1,z2,z3⟩ := h3 _ hy
 have dt : ∀ {q : Po} {a : Int} {s : Sh},(q.m.map (·.1)).Nodup → (a,s) ∈ q.m → q.dty a = s.dirty := fun {q a s} hn hm => by
  obtain ⟨i,hi⟩ := hau.1 hm
  have hil := (had.1 hi).1
  have he : q.m[i] = (a,s) := (had.1 hi).2
  have hp := zcz hn hil (by rw [he])
  unfold Po.dty
  rw [hp]
  show (q.m.getD i (0,⟨[],false,0⟩)).2.dirty = s.dirty
  rw [hai,hi]
  rfl
 show (p.wrk k').dty j' = if j' = k' then false else p.dty j'
 rw [dt h1.k.nd z1,dt h.k.nd hy]
 by_cases e : j' = k'
 ·rw [if_pos e]; exact z3 e
 ·rw [if_neg e,z2 e]
theorem St.mod (h : St P n w t T did pid mid g σ p) (m : Mod σ τ []) : St P n w t T did pid mid g τ p := by
 obtain ⟨vs,ids,r⟩ := h.r
 exact ⟨h.d.mod m fun j hj _ => by (cases hj),⟨vs,ids,r.mod m fun _ _ => rfl⟩,h.a,h.l⟩
theorem St.ind (h : St P n w t T did pid mid g σ p) (hP : P ≤ 64) (hn : n ≤ 64) : ∃ τ v,ze cfg 18 [.ref pid 0 0] σ = some (v,τ) ∧ OwnN σ τ v p.ins ∧ Mod σ τ [] := by
 obtain ⟨vs,ids,r⟩ := h.r
 have hf := h.a.few
 obtain ⟨τ,v,h1,h2,h3⟩ := zz6 h.d r h.a.k hP (by omega)
 exact ⟨τ,v,h1,Own1.n h2,h3⟩
theorem St.dirty (h : St P n w t T did pid mid g σ p) (hP : P ≤ 64) (hn : n ≤ 64) : ∃ τ v,ze cfg 19 [.ref pid 0 0] σ = some (v,τ) ∧ OwnN σ τ v p.dirts ∧ Mod σ τ [] := by
 obtain ⟨vs,ids,r⟩ := h.r
 have hf := h.a.few
 exact zug h.d r h.a.k hP (by omega)
theorem ld2 (σ : Store) (c d e : PV) : zd Try.prog σ 33 (.pref [c,d,e]) = some c := by kernel_rfl
end
end Go.Pvm.S
