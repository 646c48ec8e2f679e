/- Part of the proof: pools are made; pages of bytes; light acts; a pool's state as a whole. -/
import Derived.Test.YtceokplopachgaaPolJ
import Derived.Test.YtceokplopachgaaDevJ
set_option linter.unusedSimpArgs false
set_option linter.unusedVariables false
set_option maxRecDepth 100000
namespace Go.Pvm.S
open Go.Pvm Go.Proofs
theorem zw2 {α : Type} {f : α → List PV} {l : List α} {i : Nat} {a : α} (h : l[i]? = some a) : (l.map f)[i]? = some (f a) := by rw [List.getElem?_map,h]; rfl
theorem zz7 (t : TypeId) {x y : Nat} (h : 0 < y) : j9 Try.prog .rem t (.int .i64 (x : Nat)) (.int .i64 (y : Nat)) = some (.int .i64 ((x % y : Nat) : Int)) := by
 have h0 : ((y : Nat) : Int) ≠ 0 := by omega
 have hm : ((x : Nat) : Int).tmod ((y : Nat) : Int) = ((x % y : Nat) : Int) := rfl
 simp [j9,zln,h0,hm]
 omega
def pgB (b : By) : By := (List.range 512).map fun i => b.getD (i % b.length) 0
theorem jw (b : By) : (pgB b).length = 512 := by unfold pgB; rw [List.length_map,List.length_range]
theorem zkl (b : By) {i : Nat} (h : i < 512) : (pgB b)[i]? = some (b.getD (i % b.length) 0) := by
 unfold pgB
 rw [List.getElem?_map,List.getElem?_range h]
 rfl
theorem zpc (b : By) (hb : b.length < 4611686018427387904) : jm Cω 13 [bv b] = some (bv (pgB b)) := by
 have key : ∀ (k i : Nat) (q : By),i + k = 512 → q.length = 512 → (∀ j < i,q[j]? = some (b.getD (j % b.length) 0)) → (∀ j,i ≤ j → j < 512 → q[j]? = some 0) → ∃ p : By,p = pgB b ∧ Lω 13 zhl 0 (zgy (b.map cB) (i : Nat)) [.made true 1 (q.map cB)] = some (.exit 0,mkS 26 [(3,whole 0 1)],[.made true 1 (p.map cB)]) := by
  intro k
  induction k with
  | zero =>
    intro i q hi hq h1 h2
    refine ⟨q,List.ext_getElem? fun j => ?_,lw ?_⟩
    ·by_cases hj : j < 512
     ·rw [h1 j (by omega),zkl b hj]
     ·rw [List.getElem?_eq_none (by omega),List.getElem?_eq_none (by rw [jw]; omega)]
    ·rw [zp9,if_neg (by rw [decide_eq_true_eq]; omega)]
  | succ k ih =>
    intro i q hi hq h1 h2
    have ev := zp9 Cω Lω (b.map cB) (i : Nat) (q.map cB)
    rw [List.length_map,List.length_map,if_pos (by rw [decide_eq_true_eq]; omega)] at ev
    by_cases c : 0 < b.length
    ·have hm : i % b.length < b.length := Nat.mod_lt _ c
     have hg := List.getElem?_eq_getElem hm
     rw [if_pos (by rw [decide_eq_true_eq]; omega),zz7 _ c,za,zb,if_pos (by omega),Int.toNat_natCast,zw2 hg,za,show cB b[i % b.length] = [.int .u8 (b[i % b.length].toNat : Nat)] from rfl,yn,yl,if_pos ⟨by omega,by omega⟩,Int.toNat_natCast,if_pos (by omega),y6 (by omega)] at ev
     obtain ⟨p,p1,p2⟩ := ih (i + 1) (q.set i b[i % b.length]) (by omega) (by rw [List.length_set]; exact hq) (fun j hj => by
      by_cases e : j = i
      ·subst e; rw [List.getElem?_set_self (by omega),List.getD_eq_getElem?_getD,hg]; rfl
      ·rw [List.getElem?_set_ne (by omega)]; exact h1 j (by omega)) (fun j h3 h4 => by
      rw [List.getElem?_set_ne (by omega)]; exact h2 j (by omega) h4)
     rw [List.map_set] at p2
     exact ⟨p,p1,lw (ev.trans p2)⟩
    ·rw [if_neg (by rw [decide_eq_true_eq]; omega)] at ev
     refine ⟨q,List.ext_getElem? fun j => ?_,lw ev⟩
     have hb0 : b = [] := List.eq_nil_of_length_eq_zero (by omega)
     by_cases hj : j < 512
     ·rw [zkl b hj]
      by_cases hj2 : j < i
      ·exact h1 j hj2
      ·rw [h2 j (by omega) hj,hb0]; rfl
     ·rw [List.getElem?_eq_none (by omega),List.getElem?_eq_none (by rw [jw]; omega)]
 have ev := zzi Cω Lω (b.map cB)
 rw [if_pos ⟨by decide,rfl,by decide,by decide⟩] at ev
 obtain ⟨p,rfl,p2⟩ := key 512 0 (List.replicate 512 0) (by omega) List.length_replicate (fun j hj => by omega) (fun j _ hj => by rw [List.getElem?_replicate,if_pos hj])
 have hz : List.replicate (Int.toNat 512) [PV.int .u8 0] = (List.replicate 512 (0 : UInt8)).map cB := by rw [List.map_replicate]; rfl
 rw [zp3] at p2
 rw [hz,p2] at ev
 have g1 : List.getD (mkS 26 [(3,whole 0 1)]) 3 .undef = whole 0 1 := rfl
 simp only [zb,zc,ye,xb,xc,y1,yq,zo,yl,ym,yk,zm,zx,yd,yp,xw,zy,zl,yf,yo,zr,z6,zz,yn,yz,yy,xd,xe,yw,yx,yr,yg,yv,yh,yu,yt,vn,za,ya,y9,g1,if_true] at ev
 exact pc ev rfl
section
variable {σ : Store} {v : PV} {b : By} {g : Nat → Nat}
theorem zwo {f : FuncId} {a pa : List PV} {v : PV} (h : jm Cω f a = some v) (ha : VFs a pa) : ∃ p,zfv cfg f pa = some p ∧ VF v p := by
 obtain ⟨p,τ,h1,h2⟩ := zep hTs zwp h ha
 refine ⟨fz zp τ p,?_,h2⟩
 unfold zfv
 rw [h1]
 rfl
theorem zq9 {c2 : Cfg} (hm : c2.mode 13 = .pure) (hP : c2.P = Try.prog) (hst : c2.strict = false) (hb : b.length < 4611686018427387904) (σ : Store) : ∃ p,zi c2 (ze cfg) 13 [.lsl σ.next 1 0 b.length (some b.length)] (σ.push (.cells 0 (b.map cB))) = some (p,(σ.push (.cells 0 (b.map cB))).put σ.next (.cells (b.map cB).length (b.map cB))) ∧ IsS RB p (pgB b) := by
 have ax : AxS RB (σ.push (.cells 0 (b.map cB))) 1 (.lsl σ.next 1 0 b.length (some b.length)) b := AxS.fresh (R := RB) (All2.fn cB b) σ 1 rfl
 have hf := ax.frz okB 6
 obtain ⟨p,h1,h2⟩ := zwo (zpc b hb) (.cons (IsS.vf hf) .nil)
 have h3 := VF.by_ h2
 refine ⟨p,?_,h3⟩
 unfold zi qq
 rw [if_pos (by rw [hP]; kernel_rfl),hm]
 simp only
 unfold zfv at h1
 rw [Option.map_eq_some_iff] at h1
 obtain ⟨⟨u,τ⟩,e1,e2⟩ := h1
 have hmm : [PV.lsl σ.next 1 0 b.length (some b.length)].map (fz zp (σ.push (.cells 0 (b.map cB)))) = [fz (6 + 2) (σ.push (.cells 0 (b.map cB))) (.lsl σ.next 1 0 b.length (some b.length))] := rfl
 rw [hmm,e1]
 simp only [Option.bind_some] at e2 ⊢
 rw [e2]
 have hsc : ¬ p.scalar = true := by
  obtain ⟨es,h4,_⟩ := h3
  rcases h4 with ⟨rfl,rfl⟩ | ⟨bb,rfl⟩
  ·rename_i h5
   have hl := jw b
   generalize pgB b = q at h5 hl
   cases h5
   cases hl
  ·exact fun h => by cases h
 have hal : ((b.map cB).all fun e => PV.lf.lfs e) = true := by
  rw [List.all_eq_true]
  intro e he
  obtain ⟨c,_,rfl⟩ := List.mem_map.1 he
  rfl
 rw [if_neg hsc,hst]
 simp only [Bool.false_eq_true,if_false]
 rw [show tops.topss [PV.lsl σ.next 1 0 b.length (some b.length)] = [σ.next] from rfl]
 unfold ke
 rw [zn]
 simp only [hal,if_true]
 unfold ke
 rfl
end
end Go.Pvm.S
