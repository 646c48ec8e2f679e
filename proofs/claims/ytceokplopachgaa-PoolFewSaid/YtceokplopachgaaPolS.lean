/- Part of the proof: never more pages are in than there are frames; what is dirty is in; flushed, none is. -/
import Derived.Test.YtceokplopachgaaPolR
set_option linter.unusedSimpArgs false
set_option linter.unusedVariables false
set_option maxRecDepth 100000
namespace Go.Pvm.S
open Go.Pvm Go.Proofs
section
variable {P n w t : Nat} {T : Int} {did pid mid x i : Nat} {g g' : Nat → Nat} {σ τ s : Store} {p : Po} {u a1 v : PV} {b : By} {a : Ac} {l : List Ac}
theorem z1e (p : Po) : p.ins.Perm (p.m.map (·.1)) := List.mergeSort_perm _ _
theorem z1o (p : Po) : p.ins.length = p.m.length := by rw [(z1e p).length_eq,List.length_map]
theorem z1s (h : (p.m.map (·.1)).Nodup) : p.ins.Pairwise (· < ·) := by
 have h1 : p.ins.Pairwise fun x y => decide (x ≤ y) = true := List.pairwise_mergeSort (fun a b c h1 h2 => by rw [decide_eq_true_eq] at h1 h2 ⊢; omega) (fun a b => by
  rw [Bool.or_eq_true,decide_eq_true_eq,decide_eq_true_eq]; omega) _
 have h2 : p.ins.Nodup := (z1e p).nodup_iff.2 h
 exact (h1.and h2).imp fun {x y} h => by
  have h3 := h.1
  rw [decide_eq_true_eq] at h3
  have h4 : x ≠ y := h.2
  omega
theorem z1m {L : List Int} (h : L.Pairwise (· < ·)) (q : Int → Bool) {i : Nat} {c : Int} (hi : L[i]? = some c) :
  (q c = true → (L.filter q)[((L.take i).filter q).length]? = some c) ∧ (q c = false → (L.filter q)[((L.take i).filter q).length]? ≠ some c) ∧ ((L.take (i + 1)).filter q).length = ((L.take i).filter q).length + (if q c = true then 1 else 0) := by
 have hil := (List.getElem?_eq_some_iff.1 hi).1
 have hd : L.drop i = c :: L.drop (i + 1) := by rw [List.drop_eq_getElem_cons hil,(List.getElem?_eq_some_iff.1 hi).2]
 have hs : L.filter q = (L.take i).filter q ++ (L.drop i).filter q := by rw [← List.filter_append,List.take_append_drop]
 have ht : L.take (i + 1) = L.take i ++ [c] := by rw [List.take_add_one,hi]; rfl
 have hx : (L.filter q)[((L.take i).filter q).length]? = ((L.drop i).filter q)[0]? := by
  rw [hs,List.getElem?_append_right (Nat.le_refl _),Nat.sub_self]
 refine ⟨fun hq => ?_,fun hq => ?_,?_⟩
 ·rw [hx,hd,List.filter_cons_of_pos hq]; rfl
 ·rw [hx,hd,List.filter_cons_of_neg (by rw [hq]; decide)]
  intro e
  have hm : c ∈ (L.drop (i + 1)).filter q := List.mem_of_getElem? e
  have hp : (L.drop i).Pairwise (· < ·) := h.sublist (List.drop_sublist _ _)
  rw [hd,List.pairwise_cons] at hp
  have := hp.1 c (List.mem_filter.1 hm).1
  omega
 ·rw [ht,List.filter_append,List.length_append,List.filter_cons]
  split <;> rfl
theorem z1n {P n : Nat} {T : Int} (h : PoA P n T p) {k : Int} (hk : k ∈ p.ins) : PoA P n T (p.wrk k) ∧ (p.wrk k).ins = p.ins ∧ ∀ j ∈ p.ins,(p.wrk k).dty j = if j = k then false else p.dty j := by
 have hk' : k ∈ p.m.map (·.1) := (z1e p).mem_iff.1 hk
 obtain ⟨⟨k',x⟩,hx,rfl⟩ := List.mem_map.1 hk'
 obtain ⟨h1,_,h3,h4⟩ := h.wrk hx
 have hi : (p.wrk k').ins = p.ins := by unfold Po.ins; rw [h4]
 refine ⟨h1,hi,fun j hj => ?_⟩
 obtain ⟨⟨j',y⟩,hy,rfl⟩ := List.mem_map.1 ((z1e p).mem_iff.1 hj)
 obtain ⟨z,z1,z2,z3⟩ := h3 _ hy
 have dt : ∀ {q : Po} {a : Int} {s : Sh},(q.m.map (·.1)).Nodup → (a,s) ∈ q.m → q.dty a = s.dirty := fun {q a s} hn hm => by
  obtain ⟨i,hi⟩ := List.mem_iff_getElem?.1 hm
  have hil := (List.getElem?_eq_some_iff.1 hi).1
  have he : q.m[i] = (a,s) := (List.getElem?_eq_some_iff.1 hi).2
  have hp := zcz hn hil (by rw [he])
  unfold Po.dty
  rw [hp]
  show (q.m.getD i (0,⟨[],false,0⟩)).2.dirty = s.dirty
  rw [List.getD_eq_getElem?_getD,hi]
  rfl
 show (p.wrk k').dty j' = if j' = k' then false else p.dty j'
 rw [dt h1.k.nd z1,dt h.k.nd hy]
 by_cases e : j' = k'
 ·rw [if_pos e]; exact z3 e
 ·rw [if_neg e,z2 e]
theorem z1i {P n : Nat} {T : Int} : ∀ (L : List Int) {p : Po},PoA P n T p → (∀ k ∈ L,k ∈ p.ins) → (L.foldl Po.wrk p).ins = p.ins ∧ ∀ j ∈ p.ins,(L.foldl Po.wrk p).dty j = if j ∈ L then false else p.dty j
 | [],p,_,_ => ⟨rfl,fun j _ => (if_neg (List.not_mem_nil)).symm⟩
 | k :: L,p,h,hL => by
   obtain ⟨h1,h2,h3⟩ := z1n h (hL k (.head _))
   obtain ⟨h4,h5⟩ := z1i L h1 (fun j hj => by rw [h2]; exact hL j (.tail _ hj))
   refine ⟨h4.trans h2,fun j hj => ?_⟩
   show (L.foldl Po.wrk (p.wrk k)).dty j = _
   rw [h5 j (by rw [h2]; exact hj),h3 j hj]
   by_cases e : j = k
   ·subst e; rw [if_pos rfl,if_pos (show j ∈ j :: L from .head _)]; split <;> rfl
   ·rw [if_neg e]
    by_cases e2 : j ∈ L
    ·rw [if_pos e2,if_pos (show j ∈ k :: L from .tail _ e2)]
    ·rw [if_neg e2,if_neg (fun h => by rcases List.mem_cons.1 h with h | h; exact e h; exact e2 h)]
theorem z1k {P n : Nat} {T : Int} (h : PoA P n T p) : p.flush.dirts = [] := by
 obtain ⟨h1,h2⟩ := z1i p.dirts h (fun k hk => (List.mem_filter.1 hk).1)
 unfold Po.dirts
 rw [List.filter_eq_nil_iff]
 intro j hj
 have hj' : j ∈ p.ins := by
  have : p.flush.ins = p.ins := h1
  rw [this] at hj
  exact hj
 have := h2 j hj'
 unfold Po.flush
 rw [this]
 by_cases e : j ∈ p.dirts
 ·rw [if_pos e]; decide
 ·rw [if_neg e]
  intro hd
  exact e (List.mem_filter.2 ⟨hj',hd⟩)
theorem St.mod (h : St P n w t T did pid mid g σ p) (m : Mod σ τ []) : St P n w t T did pid mid g τ p := by
 obtain ⟨vs,ids,r⟩ := h.r
 exact ⟨h.d.mod m fun j hj _ => by (cases hj),⟨vs,ids,r.mod m fun _ _ => rfl⟩,h.a,h.l⟩
theorem OwnN.mod {υ : Store} {l : List Int} (h : OwnN σ τ v l) (m : Mod τ υ []) : OwnN σ υ v l := by
 rcases h with h | ⟨id,full,h1,h2,h3,h4,h5,h6⟩
 ·exact .inl h
 ·exact .inr ⟨id,full,h1,(m.2 id h6 (by simp)).trans h2,h3,h4,h5,Nat.lt_of_lt_of_le h6 m.1⟩
theorem St.ind (h : St P n w t T did pid mid g σ p) (hP : P ≤ 64) (hn : n ≤ 64) : ∃ τ v,ze cfg 18 [.ref pid 0 0] σ = some (v,τ) ∧ OwnN σ τ v p.ins ∧ Mod σ τ [] := by
 obtain ⟨vs,ids,r⟩ := h.r
 have hf := h.a.few
 obtain ⟨τ,v,h1,h2,h3⟩ := zz6 h.d r h.a.k hP (by omega)
 exact ⟨τ,v,h1,Own1.n h2,h3⟩
theorem St.dirty (h : St P n w t T did pid mid g σ p) (hP : P ≤ 64) (hn : n ≤ 64) : ∃ τ v,ze cfg 19 [.ref pid 0 0] σ = some (v,τ) ∧ OwnN σ τ v p.dirts ∧ Mod σ τ [] := by
 obtain ⟨vs,ids,r⟩ := h.r
 have hf := h.a.few
 exact zug h.d r h.a.k hP (by omega)
theorem fa0 (a b c d e : PV) : zj Try.prog 36 (.pref [a,b,c,d,e]) 0 = some (.pref [a,b,c,d,e]) := by kernel_rfl
theorem fa1 (a b c d e : PV) : zj Try.prog 36 (.pref [a,b,c,d,e]) 1 = some (.pref [b,c,d,e]) := by kernel_rfl
theorem fa2 (a b c d e : PV) : zj Try.prog 36 (.pref [a,b,c,d,e]) 2 = some (.pref [c,d,e]) := by kernel_rfl
theorem ld0 (σ : Store) (a b c d e : PV) : zd Try.prog σ 3 (.pref [a,b,c,d,e]) = some a := by kernel_rfl
theorem ld1 (σ : Store) (b c d e : PV) : zd Try.prog σ 3 (.pref [b,c,d,e]) = some b := by kernel_rfl
theorem ld2 (σ : Store) (c d e : PV) : zd Try.prog σ 33 (.pref [c,d,e]) = some c := by kernel_rfl
theorem z1y (hl : IsS RA a1 l) (hi : l[i]? = some a) : ∃ e,zh Try.prog 22 a1 (.int .i64 (i : Nat)) = some (.pref e) ∧ (∃ f,zj Try.prog 36 (.pref e) 0 = some f ∧ ∀ σ,zd Try.prog σ 3 f = some (.int .i64 a.d)) ∧ (∃ f,zj Try.prog 36 (.pref e) 1 = some f ∧ ∀ σ,zd Try.prog σ 3 f = some (.int .i64 a.g)) ∧ ∃ f u,zj Try.prog 36 (.pref e) 2 = some f ∧ IsS RB u a.b ∧ ∀ σ,zd Try.prog σ 33 f = some u := by
 obtain ⟨e,k1,u,v,rfl,hu,hv⟩ := hl.idx TA okA hi .i64
 exact ⟨_,k1,⟨_,fa0 _ _ _ _ _,fun σ => ld0 σ _ _ _ _ _⟩,⟨_,fa1 _ _ _ _ _,fun σ => ld1 σ _ _ _ _⟩,_,u,fa2 _ _ _ _ _,hu,fun σ => ld2 σ _ _ _⟩
noncomputable def k21 (C : z7) (L : xg) (σ : Store) (a1 : PV) (a5 : Int) (a8 : PV) (a10 : Int) (a11 : PV) (a13 a14 : Int) (ss : PV) : Option (Ex × List PV × Store) :=
  (jd Try.prog .len [50] [ss]).bind fun v8 => asInt .i64 v8 fun n9 => if (decide (a13 < n9)) = true then ((zh Try.prog 50 ss (.int .i64 a13)).bind fun v10 => (zd Try.prog σ 3 v10).bind fun v11 => asInt .i64 v11 fun n12 => (zh Try.prog 50 a11 (.int .i64 a14)).bind fun v13 => (zd Try.prog σ 3 v13).bind fun v14 => asInt .i64 v14 fun n15 => if (n12 == n15) = true then (L 5 wi (x6 a1 a5 a8 a10 a11 ss (IntKind.wrap .i64 (a13 + 1)) (IntKind.wrap .i64 (a14 + 1))) σ) else (L 5 wi (x6 a1 a5 a8 a10 a11 ss a13 (IntKind.wrap .i64 (a14 + 1))) σ)) else (L 5 wi (x6 a1 a5 a8 a10 a11 ss a13 (IntKind.wrap .i64 (a14 + 1))) σ)
theorem z1q (C : z7) (L : xg) (σ : Store) (a1 : PV) (a5 : Int) (a8 : PV) (a10 : Int) (a11 : PV) (a12 : PV) (a13 : Int) (a14 : Int) : za6 cfg C L 5 wi (x6 a1 a5 a8 a10 a11 a12 a13 a14) σ =
  (jd Try.prog .len [50] [a11]).bind fun v0 => asInt .i64 v0 fun n1 => if (decide (a14 < n1)) = true then (if (decide (a14 > 0)) = true then ((zh Try.prog 50 a11 (.int .i64 (IntKind.wrap .i64 (a14 - 1)))).bind fun v2 => (zd Try.prog σ 3 v2).bind fun v3 => asInt .i64 v3 fun n4 => (zh Try.prog 50 a11 (.int .i64 a14)).bind fun v5 => (zd Try.prog σ 3 v5).bind fun v6 => asInt .i64 v6 fun n7 => if (decide (n4 ≥ n7)) = true then (some (.ret,z1l false,σ)) else (k21 C L σ a1 a5 a8 a10 a11 a13 a14 a12)) else (k21 C L σ a1 a5 a8 a10 a11 a13 a14 a12)) else (some (.exit 3,z1a a1 a5 a8 a10 a12 a13,σ)) := z1r C L σ a1 a5 a8 a10 a11 a12 a13 a14
theorem z1w {σ1 σ2 : Store} {a5 a10 : Int} {a8 v1 v2 : PV} {L : List Int} {q : Int → Bool} (hL : L.Pairwise (· < ·)) (hlen : L.length ≤ 1000) (h1 : OwnN σ1 σ v1 L) (h2 : OwnN σ2 σ v2 (L.filter q)) : ∀ (k i : Nat),i + k = L.length →
  y2 cfg 5 wi (x6 a1 a5 a8 a10 v1 v2 (((L.take i).filter q).length : Nat) (i : Nat)) σ = some (.exit 3,z1a a1 a5 a8 a10 v2 ((L.filter q).length : Nat),σ) := by
 intro k
 induction k with
 | zero =>
   intro i hi
   refine yi ((z1q _ _ _ _ _ _ _ _ _ _ _).trans ?_)
   rw [h1.len,za,zb,if_neg (by rw [decide_eq_true_eq]; omega),List.take_of_length_le (by omega)]
 | succ k ih =>
   intro i hi
   have hil : i < L.length := by omega
   have hc := List.getElem?_eq_getElem hil
   obtain ⟨n1,n2,n3⟩ := z1m hL q hc
   obtain ⟨id,x1,x2,_⟩ := h1.at_ hil
   have hle : ((L.take i).filter q).length ≤ i := Nat.le_trans (List.length_filter_le _ _) (by rw [List.length_take]; omega)
   have ih' := ih (i + 1) (by omega)
   have rest : k21 (ze cfg) (y2 cfg) σ a1 a5 a8 a10 v1 (((L.take i).filter q).length : Nat) (i : Nat) v2 = some (.exit 3,z1a a1 a5 a8 a10 v2 ((L.filter q).length : Nat),σ) := by
    unfold k21
    rw [h2.len,za,zb]
    generalize hkk : ((L.take i).filter q).length = kk at n1 n2 n3 hle ⊢
    by_cases c : kk < (L.filter q).length
    ·rw [if_pos (by rw [decide_eq_true_eq]; omega)]
     obtain ⟨id2,y1,y2,_⟩ := h2.at_ c
     rw [y1,za,y2,za,zb,x1,za,x2,za,zb,y6 (by omega),y6 (by omega)]
     have hg := List.getElem?_eq_getElem c
     cases hq : q L[i] with
     | true =>
       have := n1 hq
       rw [hg] at this
       rw [if_pos (by rw [beq_iff_eq]; exact Option.some.inj this)]
       rw [hq,if_pos rfl] at n3
       rw [n3] at ih'
       exact ih'
     | false =>
       have := n2 hq
       rw [hg] at this
       rw [if_neg (by rw [beq_iff_eq]; exact fun e => this (by rw [e]))]
       rw [hq,if_neg (by decide),Nat.add_zero] at n3
       rw [n3] at ih'
       exact ih'
    ·rw [if_neg (by rw [decide_eq_true_eq]; omega),y6 (by omega)]
     cases hq : q L[i] with
     | true =>
       have := n1 hq
       rw [List.getElem?_eq_none (by omega)] at this
       cases this
     | false =>
       rw [hq,if_neg (by decide),Nat.add_zero] at n3
       rw [n3] at ih'
       exact ih'
   refine yi ((z1q _ _ _ _ _ _ _ _ _ _ _).trans ?_)
   rw [h1.len,za,zb,if_pos (by rw [decide_eq_true_eq]; omega)]
   by_cases c0 : 0 < i
   ·obtain ⟨j,rfl⟩ : ∃ j,i = j + 1 := ⟨i - 1,by omega⟩
    have hjl : j < L.length := by omega
    obtain ⟨id3,z1,z2,_⟩ := h1.at_ hjl
    have hlt : L[j] < L[j + 1] := (List.pairwise_iff_getElem.1 hL) j (j + 1) hjl hil (by omega)
    rw [if_pos (by rw [decide_eq_true_eq]; omega),show IntKind.wrap .i64 (((j + 1 : Nat) : Int) - 1) = ((j : Nat) : Int) from by rw [show ((j + 1 : Nat) : Int) - 1 = ((j : Nat) : Int) by omega]; exact q9 (by omega) (by omega),z1,za,z2,za,zb,x1,za,x2,za,zb,if_neg (by rw [decide_eq_true_eq]; omega)]
    exact rest
   ·rw [if_neg (by rw [decide_eq_true_eq]; omega)]
    exact rest
noncomputable def z1p (C : z7) (L : xg) (a1 : PV) (a5 : Int) (a8 : PV) (a10 : Int) (ss : Store) : Option (Ex × List PV × Store) :=
  (zi cfg C 18 [a8] ss).bind fun r11 => (zi cfg C 19 [a8] r11.2).bind fun r12 => (jd Try.prog .len [50] [r11.1]).bind fun v13 => asInt .i64 v13 fun n14 => if (decide (n14 > a5)) = true then (some (.ret,x5 false,r12.2)) else ((jd Try.prog .len [50] [r12.1]).bind fun v15 => asInt .i64 v15 fun n16 => (jd Try.prog .len [50] [r11.1]).bind fun v17 => asInt .i64 v17 fun n18 => if (decide (n16 > n18)) = true then (some (.ret,x5 false,r12.2)) else ((L 5 wi (x6 a1 a5 a8 a10 r11.1 r12.1 0 0) r12.2).bind fun r19 => zgf r19.1 (fun i19 => asInt .i64 (List.getD r19.2.1 5 .undef) fun n20 => asInt .i64 (List.getD r19.2.1 10 .undef) fun n21 => asInt .i64 (List.getD r19.2.1 13 .undef) fun n22 => if i19 = 3 then ((jd Try.prog .len [50] [(List.getD r19.2.1 12 .undef)]).bind fun v23 => asInt .i64 v23 fun n24 => if (n22 != n24) = true then (some (.ret,x5 false,r19.2.2)) else (L 5 z1d (z1c (List.getD r19.2.1 1 .undef) n20 (List.getD r19.2.1 8 .undef) (IntKind.wrap .i64 (n21 + 1))) r19.2.2)) else (if i19 = 1 then (L 5 z1d (z1c (List.getD r19.2.1 1 .undef) n20 (List.getD r19.2.1 8 .undef) (IntKind.wrap .i64 (n21 + 1))) r19.2.2) else (some (.exit i19,z1b (List.getD r19.2.1 8 .undef),r19.2.2)))) (asBool (List.getD r19.2.1 4 .undef) fun b25 => some (.ret,x5 b25,r19.2.2))))
theorem z1v (C : z7) (L : xg) (σ : Store) (a1 : PV) (a5 : Int) (a8 : PV) (a10 : Int) : za6 cfg C L 5 z1d (z1c a1 a5 a8 a10) σ =
  (jd Try.prog .len [22] [a1]).bind fun v0 => asInt .i64 v0 fun n1 => if (decide (a10 < n1)) = true then (if (decide (a10 < 60)) = true then ((zh Try.prog 22 a1 (.int .i64 a10)).bind fun v2 => (zj Try.prog 36 v2 0).bind fun v3 => (zd Try.prog σ 3 v3).bind fun v4 => asInt .i64 v4 fun n5 => if (n5 == 0) = true then ((zh Try.prog 22 a1 (.int .i64 a10)).bind fun v6 => (zj Try.prog 36 v6 1).bind fun v7 => (zd Try.prog σ 3 v7).bind fun v8 => asInt .i64 v8 fun n9 => (zi cfg C 16 [a8,(.int .i64 n9)] σ).bind fun r10 => z1p C L a1 a5 a8 a10 r10.2) else (if (n5 == 1) = true then ((zh Try.prog 22 a1 (.int .i64 a10)).bind fun v26 => (zj Try.prog 36 v26 1).bind fun v27 => (zd Try.prog σ 3 v27).bind fun v28 => asInt .i64 v28 fun n29 => (zh Try.prog 22 a1 (.int .i64 a10)).bind fun v30 => (zj Try.prog 36 v30 2).bind fun v31 => (zd Try.prog σ 33 v31).bind fun v32 => (zi zf1 C 13 [v32] σ).bind fun r33 => (zi zf1 C 12 [a8,(.int .i64 n29),r33.1,(.int .i64 0)] r33.2).bind fun r34 => asInt .i64 r34.1 fun n35 => z1p C L a1 a5 a8 a10 r34.2) else (if (n5 == 4) = true then ((zh Try.prog 22 a1 (.int .i64 a10)).bind fun v51 => (zj Try.prog 36 v51 1).bind fun v52 => (zd Try.prog σ 3 v52).bind fun v53 => asInt .i64 v53 fun n54 => (zi cfg C 15 [a8,(.int .i64 n54)] σ).bind fun r55 => asInt .i64 r55.1 fun n56 => z1p C L a1 a5 a8 a10 r55.2) else (z1p C L a1 a5 a8 a10 σ)))) else (some (.exit 0,z1b a8,σ))) else (some (.exit 0,z1b a8,σ)) := z1t C L σ a1 a5 a8 a10
theorem z1x {m : Int} (h : St 5 n w 0 0 did pid mid g s p) (hm : m = (n : Nat)) (hn : n ≤ 64) (hi : i < 60) :
  ∃ τ,z1p (ze cfg) (y2 cfg) a1 m (.ref pid 0 0) (i : Nat) s = y2 cfg 5 z1d (z1c a1 m (.ref pid 0 0) ((i + 1 : Nat) : Int)) τ ∧ St 5 n w 0 0 did pid mid g τ p := by
 obtain ⟨τ1,v1,a1',a2,a3⟩ := h.ind (by omega) hn
 have s1 := h.mod a3
 obtain ⟨τ2,v2,b1,b2,b3⟩ := s1.dirty (by omega) hn
 have s2 := s1.mod b3
 have a2' := a2.mod b3
 have c1 : zi cfg (ze cfg) 18 [.ref pid 0 0] s = some (v1,τ1) := by rw [zk rfl (by kernel_rfl)]; exact a1'
 have c2 : zi cfg (ze cfg) 19 [.ref pid 0 0] τ1 = some (v2,τ2) := by rw [zk rfl (by kernel_rfl)]; exact b1
 have hf := h.a.few
 have hl := z1o p
 have hd : p.dirts.length ≤ p.ins.length := List.length_filter_le _ _
 have lp := z1w (a1 := a1) (a5 := m) (a10 := (i : Nat)) (a8 := .ref pid 0 0) (z1s h.a.k.nd) (by omega) a2' b2 p.ins.length 0 (by omega)
 rw [List.take_zero,List.filter_nil,List.length_nil,zp3] at lp
 refine ⟨τ2,?_,s2⟩
 unfold z1p
 rw [c1,za,c2,za,a2'.len,za,zb,if_neg (by rw [decide_eq_true_eq]; omega),b2.len,za,zb,za,zb,if_neg (by rw [decide_eq_true_eq]; omega),lp,za,ya]
 simp only [out5_21_1,out5_21_5,out5_21_8,out5_21_10,out5_21_12,out5_21_13,zb,if_true]
 rw [b2.len,za,zb,if_neg (by rw [show p.ins.filter p.dty = p.dirts from rfl,bne_self_eq_false]; decide),y6 (show i < 4611686018427387904 by omega)]
theorem z1u {m : Int} (hl : IsS RA a1 l) (hb : ∀ a ∈ l,a.b.length < 4611686018427387904) (hm : m = (n : Nat)) (hn : n ≤ 64) : ∀ (k i w : Nat) (g : Nat → Nat) (σ : Store) (p : Po),i + k = 60 → w ≤ 300 * i → St 5 n w 0 0 did pid mid g σ p →
  ∃ g' τ q w',y2 cfg 5 z1d (z1c a1 m (.ref pid 0 0) (i : Nat)) σ = some (.exit 0,z1b (.ref pid 0 0),τ) ∧ w' ≤ 18000 ∧ St 5 n w' 0 0 did pid mid g' τ q := by
 intro k
 induction k with
 | zero =>
   intro i w g σ p hi hw h
   have ev := z1v (ze cfg) (y2 cfg) σ a1 m (.ref pid 0 0) (i : Nat)
   rw [hl.len TA,za,zb,show decide (((i : Nat) : Int) < 60) = false from decide_eq_false (by omega)] at ev
   by_cases c : decide (((i : Nat) : Int) < ((l.length : Nat) : Int)) = true
   ·rw [if_pos c,if_neg (by decide)] at ev; exact ⟨g,σ,p,w,yi ev,by omega,h⟩
   ·rw [if_neg c] at ev; exact ⟨g,σ,p,w,yi ev,by omega,h⟩
 | succ k ih =>
   intro i w g σ p hi hw h
   have ev := z1v (ze cfg) (y2 cfg) σ a1 m (.ref pid 0 0) (i : Nat)
   rw [hl.len TA,za,zb,show decide (((i : Nat) : Int) < 60) = true from decide_eq_true (by omega)] at ev
   by_cases c : decide (((i : Nat) : Int) < ((l.length : Nat) : Int)) = true
   case neg => rw [if_neg c] at ev; exact ⟨g,σ,p,w,yi ev,by omega,h⟩
   have hil : i < l.length := by have := of_decide_eq_true c; omega
   have hw' := List.getElem?_eq_getElem hil
   have hba := hb _ (List.getElem_mem hil)
   generalize l[i] = a at hw' hba
   obtain ⟨e,k1,⟨f0,k2,k3⟩,⟨f1,k4,k5⟩,f2,u,k6,k7,k8⟩ := z1y hl hw'
   rw [if_pos c,if_pos rfl,k1,za,k2,za,k3,za,zb] at ev
   have fin : ∀ {w1 : Nat} {g1 : Nat → Nat} {s : Store} {q : Po},w1 ≤ 300 * (i + 1) → St 5 n w1 0 0 did pid mid g1 s q → ∃ g' τ q' w',z1p (ze cfg) (y2 cfg) a1 m (.ref pid 0 0) (i : Nat) s = some (.exit 0,z1b (.ref pid 0 0),τ) ∧ w' ≤ 18000 ∧ St 5 n w' 0 0 did pid mid g' τ q' := fun {w1} {g1} {s} {q} h1 h2 => by
    obtain ⟨τ2,e1,e2⟩ := z1x (a1 := a1) h2 hm hn (show i < 60 by omega)
    obtain ⟨g',τ,q',w',e3,e4⟩ := ih (i + 1) w1 g1 τ2 q (by omega) (by omega) e2
    exact ⟨g',τ,q',w',e1.trans e3,e4⟩
   by_cases c0 : (a.d == 0) = true
   ·obtain ⟨g1,τ1,u,q1,q2,_⟩ := h.read (by omega) (by omega) (by omega) (by omega) a.g
    have q1' : zi cfg (ze cfg) 16 [.ref pid 0 0,.int .i64 a.g] σ = some (.tuple [u,.int .i64 (if 0 ≤ a.g ∧ a.g < (5 : Nat) then 0 else 3)],τ1) := by rw [zk rfl (by kernel_rfl)]; exact q1
    rw [if_pos c0,za,k4,za,k5,za,zb,q1',za] at ev
    obtain ⟨g',τ,q',w',f⟩ := fin (w1 := w + 4) (by omega) q2
    exact ⟨g',τ,q',w',yi (ev.trans f.1),f.2⟩
   rw [if_neg c0] at ev
   by_cases c1 : (a.d == 1) = true
   ·obtain ⟨v1,p1,p2⟩ := ztx (c2 := zf1) rfl rfl k7 hba σ
    obtain ⟨g1,τ1,q1,q2,q3⟩ := h.putP (by omega) (by omega) (by omega) (by omega) a.g p2 (by rw [jw]; decide) 0
    obtain ⟨r,q1'⟩ : ∃ r,zi zf1 (ze cfg) 12 [.ref pid 0 0,.int .i64 a.g,v1,.int .i64 0] σ = some (.int .i64 r,τ1) := ⟨_,by rw [zk rfl (by kernel_rfl)]; exact q1⟩
    rw [if_pos c1,za,k4,za,k5,za,zb,za,k6,za,k8,za,p1,za,q1',za,zb] at ev
    obtain ⟨g',τ,q',w',f⟩ := fin (w1 := w + 4) (by omega) q2
    exact ⟨g',τ,q',w',yi (ev.trans f.1),f.2⟩
   rw [if_neg c1] at ev
   by_cases c4 : (a.d == 4) = true
   ·obtain ⟨g1,τ1,q1,q2,q3⟩ := h.evict (by omega) (by omega) (by omega) a.g
    have q1' : zi cfg (ze cfg) 15 [.ref pid 0 0,.int .i64 a.g] σ = some (.int .i64 (if (wc p.m a.g).isSome = true then 0 else 3),τ1) := by rw [zk rfl (by kernel_rfl)]; exact q1
    rw [if_pos c4,za,k4,za,k5,za,zb,q1',za,zb] at ev
    obtain ⟨g',τ,q',w',f⟩ := fin (w1 := w + 4) (by omega) q2
    exact ⟨g',τ,q',w',yi (ev.trans f.1),f.2⟩
   rw [if_neg c4] at ev
   obtain ⟨g',τ,q',w',f⟩ := fin (w1 := w) (by omega) h
   exact ⟨g',τ,q',w',yi (ev.trans f.1),f.2⟩
end
theorem spFew {n : Int} (hn : 0 ≤ n ∧ n ≤ 255) {l : List Ac} {y : PV} (hy : VF (.psl false (l.map Ac.e)) y) (hl : l.length < 4611686018427387904) (hb : ∀ a ∈ l,a.b.length < 4611686018427387904) : ∃ τ,ze cfg 5 [.int .u8 n,y] .empty = some (.bool true,τ) := by
 have ev := eq5 (ze cfg) (y2 cfg) .empty n y
 obtain ⟨m,hm,m1,m2⟩ := zva hn
 rw [hm] at ev
 obtain ⟨g1,τ1,did,pid,mid,τ0,a1,a2,a3,_⟩ := zwy (P := 5) (m := m) (by omega) (by omega) (fun _ => 7) .empty
 have c1 : zi cfg (ze cfg) 8 [.int .i64 5] .empty = some (.tuple [.ref did 0 0,.int .i64 0],τ0) := by rw [zk rfl (by kernel_rfl)]; exact a1
 have c2 : zi cfg (ze cfg) 9 [.ref did 0 0,.int .i64 m] τ0 = some (.tuple [.ref pid 0 0,.int .i64 0],τ1) := by rw [zk rfl (by kernel_rfl)]; exact a2
 obtain ⟨b,hL⟩ := zvj (c2 := cfg) rfl rfl hy hl τ1
 rw [c1,za,uo,za,un,za,zb,c2,za,uo,za,un,za,zb,if_neg (by decide),if_neg (by decide),(zp2 _ _ _).2,za,zc,if_neg (by decide),hL,za,zc] at ev
 cases b with
 | false =>
   rw [if_pos (show (!false) = true from rfl),if_pos (by decide),if_pos (by decide),(zp2 _ _ _).1,za,zc,if_pos rfl,zrc rfl rfl,za,zc] at ev
   exact ⟨_,zf (hT _) ev⟩
 | true =>
   obtain ⟨g2,τ2,q,w',e1,e2,e3⟩ := z1u (VF.acts hy) hb (m := m) (n := m.toNat) (by omega) (by omega) 60 0 0 g1 τ1 _ (by omega) (by omega) a3
   rw [zp3] at e1
   obtain ⟨τ3,v3,d1,d2,d3⟩ := e3.dirty (by omega) (by omega)
   have s3 := e3.mod d3
   obtain ⟨g4,τ4,f1,f2,f3,_⟩ := s3.flush (by omega) (by omega) (by omega) (by omega) (by omega)
   obtain ⟨τ5,v5,h1,h2,h3⟩ := f2.dirty (by omega) (by omega)
   rw [z1k e3.a] at h2
   have d1' : zi cfg (ze cfg) 19 [.ref pid 0 0] τ2 = some (v3,τ3) := by rw [zk rfl (by kernel_rfl)]; exact d1
   have f1' : zi cfg (ze cfg) 14 [.ref pid 0 0] τ3 = some (.int .i64 (q.dirts.length : Nat),τ4) := by rw [zk rfl (by kernel_rfl)]; exact f1
   have h1' : zi cfg (ze cfg) 19 [.ref pid 0 0] τ4 = some (v5,τ5) := by rw [zk rfl (by kernel_rfl)]; exact h1
   rw [if_neg (show ¬ (!true) = true by decide),e1,za,ya,if_pos rfl] at ev
   simp only [out5_7_8] at ev
   rw [d1',za,d2.len,za,zb,f1',za,zb,if_pos (by rw [beq_self_eq_true]),h1',za,h2.len,za,zb,if_pos (by decide),zrc rfl rfl,za,zc] at ev
   exact ⟨_,zf (hT _) ev⟩
end Go.Pvm.S
