/- Part of the proof: the device: a write, a turn, what counts. -/
import Derived.Test.YtceokplopachgaaDevA
set_option linter.unusedSimpArgs false
set_option linter.unusedVariables false
set_option maxRecDepth 100000
namespace Go.Pvm.S
open Go.Pvm Go.Proofs
theorem z0g (a b c : PV) : zj Try.prog 112 (.pref [a,b,c]) 2 = some (.pref [c]) := by kernel_rfl
theorem z0d (c : PV) (r : List PV) : zbb Try.prog 3 (.pref (c :: r)) = some c := by kernel_rfl
theorem zbq {σ : Store} {o o' : Obj} {id : Nat} (h : σ.objs id = some o) (hid : id < σ.next) : (σ.push o').objs id = some o := by rw [yj hid]; exact h
theorem zr0 {c : List PV} {i : Nat} {v : PV} (h : c[i]? = some v) : c.set i v = c := by
 apply List.ext_getElem?
 intro j
 rw [List.getElem?_set]
 split
 ·rename_i hj
  subst hj
  split
  ·exact h.symm
  ·rename_i hl
   exact (List.getElem?_eq_none (Nat.le_of_not_lt hl)).symm
 ·rfl
theorem pl3 {u : PV} (hu : u.plain = true) (x : Bool) (k : IntKind) (y : Int) : ∀ c ∈ [u,.bool x,.int k y],c.plain = true := by
 intro c hc
 rcases List.mem_cons.1 hc with rfl | hc
 ·exact hu
 rcases List.mem_cons.1 hc with rfl | hc
 ·rfl
 ·rw [List.mem_singleton.1 hc]; rfl
section
variable {σ : Store} {id off : Nat} {c : List PV} {vp vs u : PV} {l b st : By} {base : Int}
theorem zwb (ho : σ.objs id = some (.cells 0 [c])) (hid : id < σ.next) (hc : c[off]? = some vp) (hp : Wr RB σ 1 vp l) (hb : IsS RB u b) (h1 : b.length = 128) {at_ : Nat} (h2 : 128 * at_ + 128 ≤ l.length) (hs : l.length ≤ 1000000000) :
  ∃ τ,ze cfg 58 [.ref id 0 off,.agg [.int .i64 (at_ : Nat),u]] σ = some (.tuple [],τ) ∧ Mod σ τ (tops vp) ∧ Wr RB τ 1 vp (putP l ((at_ : Nat),b)) := by
 have ev := z0l (ze cfg) (y2 cfg) σ id 0 off (at_ : Nat) u
 let σ1 := σ.push (.cells 0 [[.int .i64 (at_ : Nat),u]])
 have hw : IntKind.wrap .i64 (((at_ : Nat) : Int) * 128) = ((at_ * 128 : Nat) : Int) := by rw [q9 (by omega) (by omega)]; omega
 have l0 : zd Try.prog σ1 33 (.ref id 0 (off + 0)) = some vp := qc otB (zbq ho hid) hc
 have l1 : zd Try.prog σ1 3 (.ref σ.next 0 (0 + 0)) = some (.int .i64 (at_ : Nat)) := qc oInt (zn _ _) rfl
 have l2 : zd Try.prog σ1 33 (.ref σ.next 0 (0 + 1)) = some u := qc otB (zn _ _) rfl
 have m1 : Mod σ σ1 (tops vp) := Mod.push _ _ _
 have hp1 : Wr RB σ1 1 vp l := hp.mod (Mod.push σ _ []) fun _ _ => by simp
 obtain ⟨v',n,τ,k1,k2,k3,k4⟩ := hp1.copy TB okB (lo := some (.int .i64 ((at_ * 128 : Nat) : Int))) (x8 .i64 _ 0) (ln := b) (by omega) (hb.q σ1 1)
 have l0' := l0; have l1' := l1; have l2' := l2; have k2' := k2
 simp only [σ1] at l0' l1' l2' k2'
 simp only [l0',l1',l2',za,zb,hw,k1,k2'] at ev
 refine ⟨τ,zf (hT _) ev,(m1.trans k3).mono fun i _ hi => by simpa using hi,?_⟩
 have hput : putP l (((at_ : Nat) : Int),b) = l.take (at_ * 128) ++ b ++ l.drop (at_ * 128 + b.length) := by
  unfold putP
  simp only [Int.toNat_natCast,h1]
  rw [Nat.mul_comm]
 rw [hput]
 exact k4
theorem zv8 (ho : σ.objs id = some (.cells 0 [c])) (hid : id < σ.next) (hlen : off + 2 < c.length) (hc1 : c[off + 1]? = some (.int .i64 base)) (hc2 : c[off + 2]? = some vs) (hp : AxS RB σ 1 vs st) (hni : ∀ i ∈ tops vs,i ≠ id) {t : Tn} (hb : IsS RB u t.b)
  (hs : st.length + t.b.length ≤ 1000000000) (hv : t.trim = true → base ≤ t.place ∧ t.place ≤ base + st.length) (hbase : 0 ≤ base ∧ base ≤ 1000000000) :
  ∃ u' τ,ze cfg 55 [.ref id 0 off,.agg [u,.bool t.trim,.int .i64 t.place]] σ = some (.tuple [],τ) ∧ Mod σ τ (id :: tops vs) ∧
    τ.objs id = some (.cells 0 [(c.set (off + 2) u').set (off + 1) (.int .i64 ((Dk.mk [] base st).turn t).base)]) ∧ AxS RB τ 1 u' ((Dk.mk [] base st).turn t).st ∧ ∀ i ∈ tops u',i ∈ tops vs ∨ (σ.next ≤ i ∧ i < τ.next) := by
 obtain ⟨tb,tr,place⟩ := t
 have ev := z0n (ze cfg) (y2 cfg) σ id 0 off u tr place
 have l1 : ∀ k,zd Try.prog (σ.push (.cells k [[u,.bool tr,.int .i64 place]])) 4 (.ref σ.next 0 (0 + 1)) = some (.bool tr) := fun k => qc oBool (zn _ _) rfl
 have hps : ∀ k,AxS RB (σ.push (.cells k [[u,.bool tr,.int .i64 place]])) 1 vs st := fun k => hp.push _
 have lx : ∀ k,zd Try.prog (σ.push (.cells k [[u,.bool tr,.int .i64 place]])) 33 (.ref id 0 (off + 2)) = some vs := fun k => qc otB (zbq ho hid) hc2
 have lb : ∀ k,zd Try.prog (σ.push (.cells k [[u,.bool tr,.int .i64 place]])) 3 (.ref id 0 (off + 1)) = some (.int .i64 base) := fun k => qc oInt (zbq ho hid) hc1
 cases tr with
 | true =>
   have hv := hv rfl
   simp only at hv hb
   have hro := zwl (σ := σ) (e := [u,.bool true,.int .i64 place]) (ze0 (pl3 hb.plain _ _ _)) 0
   have hfz := zy4 (σ := σ) (e := [u,.bool true,.int .i64 place]) (pl3 hb.plain _ _ _) 0
   have hw : IntKind.wrap .i64 (place - base) = (((place - base).toNat : Nat) : Int) := by rw [q9 (by omega) (by omega)]; omega
   obtain ⟨v',k1,k2,k3⟩ := (hps 1).cut TB okB (lo := some (.int .i64 (((place - base).toNat : Nat) : Int))) (hi := none) (x8 .i64 _ 0) rfl (by omega) (Nat.le_refl _)
   rw [List.take_of_length_le (by simp)] at k2
   obtain ⟨u',τ,j1,j2,j3,j4,_⟩ := zra (c2 := zmv) rfl rfl (sz := 1) k2 (by simp; simp at hs; omega)
   have hτ : τ.objs id = some (.cells 0 [c]) := by rw [j2.2 id (by show id < σ.next + 1; omega) (by simp)]; exact zbq ho hid
   have hu1 := AxS.one j4
   have st1 := zbi (off := off + 2) otB hτ hlen hu1.1 hu1.2
   have st2 := zbi (σ := τ.put id (.cells 0 [c.set (off + 2) u'])) (off := off + 1) (v := .int .i64 place) oInt (xa _ _ _) (by simp; omega) rfl rfl
   simp only [l1,za,zc,if_true,hro,hfz,lx,z0g,z0d,zb,lb,hw,k1,j1,st1,st2] at ev
   rw [zel] at ev
   refine ⟨u',_,zf (hT _) ev,?_,xa _ _ _,?_,fun i hi => ?_⟩
   ·refine ((Mod.push σ _ []).trans (j2.trans (Mod.put (ids := [id]) (.head _)))).mono fun i _ hi => ?_
    simp at hi; subst hi; exact .head _
   ·refine j4.mod (Mod.put (ids := [id]) (.head _)) fun i hi hm => ?_
    have := j3 i hi
    simp at hm; subst hm
    have h1 : σ.next + 1 ≤ i := this.1
    omega
   ·have := j3 i hi
    have h1 : σ.next + 1 ≤ i := this.1
    exact .inr ⟨by omega,this.2⟩
 | false =>
   simp only at hb
   obtain ⟨u1,c1,c2,c3,_⟩ := zxy (c2 := zf1) rfl rfl (hps 0) (by omega)
   have lu : zd Try.prog (σ.push (.cells 0 [[u,.bool false,.int .i64 place]])) 33 (.ref σ.next 0 (0 + 0)) = some u := qc otB (zn _ _) rfl
   obtain ⟨u',τ,j1,j2,j3,j4⟩ := c2.appQ TB okB (hb.q _ 1) (by simp at hs; omega)
   have hni1 : id ∉ tops u1 := fun h => hni id (c3 id h) rfl
   have hτ : τ.objs id = some (.cells 0 [c]) := by rw [j3.2 id (by show id < σ.next + 1; omega) hni1]; exact zbq ho hid
   have hu1 := AxS.one j2
   have st1 := zbi (off := off + 2) otB hτ hlen hu1.1 hu1.2
   simp only [l1,za,zc,Bool.false_eq_true,if_false,lx,c1,lu,j1,st1] at ev
   have hset : (c.set (off + 2) u').set (off + 1) (.int .i64 base) = c.set (off + 2) u' := zr0 (by rw [List.getElem?_set_ne (by omega)]; exact hc1)
   have hne : ∀ i ∈ tops u',i ≠ id := fun i hi e => by
    subst e
    rcases j4 i hi with h | h
    ·exact hni1 h
    ·have h1 : σ.next + 1 ≤ i := h.1
     omega
   refine ⟨u',_,zf (hT _) ev,?_,?_,?_,fun i hi => ?_⟩
   ·refine ((Mod.push σ _ []).trans (j3.trans (Mod.put (ids := [id]) (.head _)))).mono fun i _ hi => ?_
    simp at hi
    rcases hi with hi | rfl
    ·exact .tail _ (c3 i hi)
    ·exact .head _
   ·show _ = some (Pvm.Obj.cells 0 [(c.set (off + 2) u').set (off + 1) (.int .i64 base)])
    rw [hset]
    exact xa _ _ _
   ·exact j2.mod (Mod.put (ids := [id]) (.head _)) fun i hi hm => hne i hi (by simpa using hm)
   ·rcases j4 i hi with h | h
    ·exact .inl (c3 i h)
    ·have h1 : σ.next + 1 ≤ i := h.1
     exact .inr ⟨by omega,h.2⟩
end
end Go.Pvm.S
