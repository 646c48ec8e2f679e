/- Part of the proof: the law of reading. -/
import Derived.Test.YtceokplopachgaaPolQ
set_option linter.unusedSimpArgs false
set_option linter.unusedVariables false
set_option maxRecDepth 100000
namespace Go.Pvm.S
open Go.Pvm Go.Proofs
def z512 : By := List.replicate 512 0
theorem zyc : qk Try.prog 32 = some 6 := by kernel_rfl
theorem zvj {c2 : Cfg} (hm : c2.mode 10 = .pure) (hP : c2.P = Try.prog) {y : PV} {l : List Ac} (hy : VF (.psl false (l.map Ac.e)) y) (hl : l.length < 4611686018427387904) (σ : Store) : ∃ b : Bool,zi c2 (ze cfg) 10 [y] σ = some (.bool b,σ) := by
 obtain ⟨b,hb⟩ := zuc l hl
 have hyp := (VF.acts hy).plain
 obtain ⟨p,h1,h2⟩ := zq7 (c2 := c2) hm hP (by kernel_rfl) hb (.cons hy .nil) (fun σ => by have := vo (e := [y]) (fun c hc => by rw [List.mem_singleton.1 hc]; exact hyp) 7 σ; exact this) (zu1 fun c hc => by rw [List.mem_singleton.1 hc]; exact hyp) σ
 rw [h2.base_eq rfl] at h1
 exact ⟨b,h1⟩
theorem zyp {P : Nat} {j : Nat} (hj : j < P) : za9 (Dv.new P) (j : Nat) = z512 := by
 show ((List.replicate (512 * P) (0 : UInt8)).drop ((j : Nat) * 512)).take 512 = List.replicate 512 0
 rw [List.drop_replicate,List.take_replicate,show min 512 (512 * P - j * 512) = 512 by omega]
section
variable {n w did pid mid wid : Nat} {g g' : Nat → Nat} {σ τ s : Store} {p : Po} {a1 : PV}
theorem zw6 (hn : n ≤ 64) : ∀ (k i : Nat) (g : Nat → Nat) (σ : Store) (p : Po) (was : List By),i + k = 6 → St 6 n w 0 0 did pid mid g σ p → Six g σ wid was → (∀ j : Nat,j < i → was.getD j [] = z512) →
  ∃ g' τ was',y2 cfg 3 zsq (zru a1 (.ref pid 0 0) (.ref wid 0 0) (i : Nat)) σ = some (.exit 0,ziv a1 (.ref pid 0 0) (.ref wid 0 0),τ) ∧ St 6 n w 0 0 did pid mid g' τ p ∧ Six g' τ wid was' ∧ ∀ j : Nat,j < 6 → was'.getD j [] = z512 := by
 intro k
 induction k with
 | zero =>
   intro i g σ p was hi h h6 hv
   refine ⟨g,σ,was,yi ((zw4 _ _ _ _ _ _ _).trans ?_),h,h6,fun j hj => hv j (by omega)⟩
   rw [if_neg (by rw [decide_eq_true_eq]; omega)]
 | succ k ih =>
   intro i g σ p was hi h h6 hv
   have ev := zw4 (ze cfg) (y2 cfg) σ a1 (.ref pid 0 0) (.ref wid 0 0) (i : Nat)
   have m1 := msB σ 512 (by decide)
   have m1 : qw Try.prog σ 33 (.int .i64 512) (.int .i64 512) = some (.lsl σ.next 1 0 512 (some 512),σ.push (.cells 0 (List.replicate 512 [.int .u8 0]))) := m1
   have hq : QS RB (σ.push (.cells 0 (List.replicate 512 [.int .u8 0]))) 1 (.lsl σ.next 1 0 512 (some 512)) z512 := (AxS.fresh (R := RB) (l := z512) (by
    have := All2.fn cB z512
    rw [show z512.map cB = List.replicate 512 [.int .u8 0] from List.map_replicate ..] at this
    exact this) σ 1 (n := 512) List.length_replicate.symm).q
   have cv := hq.str zt6 TB bU8
   obtain ⟨s1,o1⟩ := h.box (.cells 0 (List.replicate 512 [.int .u8 0])) 7
   have s6 := h6.out o1
   obtain ⟨τ1,t1,t2,t3⟩ := s6.st (j := i) (by omega) z512
   rw [if_pos (by rw [decide_eq_true_eq]; omega),m1,za,cv,za,ye,zu4 wid i (by omega),za,t1,za,y6 (by omega)] at ev
   obtain ⟨g',τ,was',e1,e2⟩ := ih (i + 1) _ τ1 p _ (by omega) (by rw [t3]; exact s1.put (.inr (by rw [s6.g11]; decide)) _) t2 (fun j hj => by
    by_cases e : j = i
    ·subst e; rw [List.getD_eq_getElem?_getD,List.getElem?_set_self (by rw [h6.ln]; omega)]; rfl
    ·rw [List.getD_eq_getElem?_getD,List.getElem?_set_ne (by omega),← List.getD_eq_getElem?_getD]; exact hv j (by omega))
   exact ⟨g',τ,was',yi (ev.trans e1),e2⟩
end
theorem zva {n : Int} (h : 0 ≤ n ∧ n ≤ 255) : ∃ m : Int,IntKind.wrap .i64 (1 + IntKind.wrap .i64 (Int.tmod n 6)) = m ∧ 1 ≤ m ∧ m ≤ 6 := by
 obtain ⟨k,rfl⟩ : ∃ k : Nat,n = (k : Nat) := ⟨n.toNat,by omega⟩
 have hm : ((k : Nat) : Int).tmod 6 = ((k % 6 : Nat) : Int) := rfl
 refine ⟨((k % 6 : Nat) : Int) + 1,?_,by omega,by omega⟩
 rw [hm,show IntKind.wrap .i64 ((k % 6 : Nat) : Int) = ((k % 6 : Nat) : Int) from q9 (by omega) (by omega),q9 (by omega) (by omega)]
 omega
theorem spReads {n : Int} (hn : 0 ≤ n ∧ n ≤ 255) {l : List Ac} {y : PV} (hy : VF (.psl false (l.map Ac.e)) y) (hl : l.length < 4611686018427387904) (hb : ∀ a ∈ l,a.b.length < 4611686018427387904) : ∃ τ,ze cfg 3 [.int .u8 n,y] .empty = some (.bool true,τ) := by
 have ev := eq3 (ze cfg) (y2 cfg) .empty n y
 obtain ⟨m,hm,m1,m2⟩ := zva hn
 rw [hm] at ev
 obtain ⟨g1,τ1,did,pid,mid,τ0,a1,a2,a3,_⟩ := zwy (P := 6) (m := m) (by omega) (by omega) (fun _ => 7) .empty
 have c1 : zi cfg (ze cfg) 8 [.int .i64 6] .empty = some (.tuple [.ref did 0 0,.int .i64 0],τ0) := by rw [zk rfl (by kernel_rfl)]; exact a1
 have c2 : zi cfg (ze cfg) 9 [.ref did 0 0,.int .i64 m] τ0 = some (.tuple [.ref pid 0 0,.int .i64 0],τ1) := by rw [zk rfl (by kernel_rfl)]; exact a2
 obtain ⟨b,hL⟩ := zvj (c2 := cfg) rfl rfl hy hl τ1
 rw [c1,za,uo,za,un,za,zb,c2,za,uo,za,un,za,zb,if_neg (by decide),if_neg (by decide),(zp2 _ _ _).2,za,zc,if_neg (by decide),hL,za,zc] at ev
 cases b with
 | false =>
   rw [if_pos (show (!false) = true from rfl),if_pos (by decide),if_pos (by decide),(zp2 _ _ _).1,za,zc,if_pos rfl,zrc rfl rfl,za,zc] at ev
   exact ⟨_,zf (hT _) ev⟩
 | true =>
   have hs1 : zu Try.prog (τ1.push (.cells 0 [[.str (ByteArray.mk #[]),.str (ByteArray.mk #[]),.str (ByteArray.mk #[]),.str (ByteArray.mk #[]),.str (ByteArray.mk #[]),.str (ByteArray.mk #[])]])) 32 (.ref τ1.next 0 0) (.agg [.str (ByteArray.mk #[]),.str (ByteArray.mk #[]),.str (ByteArray.mk #[]),.str (ByteArray.mk #[]),.str (ByteArray.mk #[]),.str (ByteArray.mk #[])]) = some (τ1.push (.cells 0 [[.str (ByteArray.mk #[]),.str (ByteArray.mk #[]),.str (ByteArray.mk #[]),.str (ByteArray.mk #[]),.str (ByteArray.mk #[]),.str (ByteArray.mk #[])]])) := zne zyc rfl rfl rfl
   obtain ⟨s1,o1⟩ := a3.box (.cells 0 [[.str (ByteArray.mk #[]),.str (ByteArray.mk #[]),.str (ByteArray.mk #[]),.str (ByteArray.mk #[]),.str (ByteArray.mk #[]),.str (ByteArray.mk #[])]]) 11
   have h6 : Six (tag g1 τ1.next 11) (τ1.push (.cells 0 [[.str (ByteArray.mk #[]),.str (ByteArray.mk #[]),.str (ByteArray.mk #[]),.str (ByteArray.mk #[]),.str (ByteArray.mk #[]),.str (ByteArray.mk #[])]])) τ1.next [[],[],[],[],[],[]] := ⟨qj (Nat.le_refl _),Nat.lt_succ_self _,zn _ _,rfl⟩
   obtain ⟨g2,τ2,was,e1,e2,e3,e4⟩ := zw6 (a1 := y) (by omega) 6 0 _ _ _ _ (by omega) s1 h6 (fun j hj => absurd hj (Nat.not_lt_zero _))
   obtain ⟨τ3,f1⟩ := zu0 (VF.acts hy) hb (by omega) 80 0 0 g2 τ2 _ was (by omega) (by omega) e2 e3 (fun j hj => (e4 j hj).trans ((zt2 m _).trans (zyp hj)).symm)
   rw [zp3] at e1 f1
   rw [if_neg (show ¬ (!true) = true by decide),hs1,za,e1,za,ya,if_pos rfl] at ev
   simp only [out3_7_1,out3_7_7,out3_7_9] at ev
   rw [f1,za,ya,if_pos rfl,zrc rfl rfl,za,zc] at ev
   exact ⟨_,zf (hT _) ev⟩
end Go.Pvm.S
