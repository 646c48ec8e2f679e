/- Part of the proof: calls of what is known over values alone, made in the store. -/
import Derived.Test.YtceokplopachgaaPolB
set_option linter.unusedSimpArgs false
set_option linter.unusedVariables false
set_option maxRecDepth 100000
namespace Go.Pvm.S
open Go.Pvm Go.Proofs
def bv (l : By) : PV := .psl false (l.map cB)
def bo (b : Bool) : List PV := [.bool b]
theorem zq7 {c2 : Cfg} {g : FuncId} {a pa : List PV} {v : PV} (hm : c2.mode g = .pure) (hP : c2.P = Try.prog) (he : enters Try.prog g = true) (h : jm Cω g a = some v) (ha : VFs a pa) (hf : ∀ σ,pa.map (fz zp σ) = pa) (hl : PV.lf.lfs pa = true) (σ : Store) : ∃ p,zi c2 (ze cfg) g pa σ = some (p,σ) ∧ VF v p := by
 obtain ⟨p,τ,h1,h2⟩ := zep hTs zwp h ha
 refine ⟨fz zp τ p,w8 hm (by rw [hP]; exact he) (hf σ) ?_ (.inr hl),h2⟩
 unfold zfv
 rw [h1]
 rfl
theorem VF.pl {v p : PV} (h : VF v p) (hv : v.plain = true) : p.plain = true := by
 cases h <;> first | rfl | exact hv | cases hv
theorem VFs.pl {vs ps : List PV} (h : VFs vs ps) : (∀ c ∈ vs,c.plain = true) → ∀ c ∈ ps,c.plain = true := by
 intro hv c hc
 have h2 := h.all2
 clear h
 induction h2 with
 | nil => cases hc
 | cons h _ ih =>
   rcases ha6.1 hc with rfl | hc
   ·exact VF.pl h (hv _ (.head _))
   ·exact ih (fun c hc => hv c (.tail _ hc)) hc
theorem zfo {α : Type} {e : α → List PV} (he : ∀ a,(e a).all PV.base = true) : ∀ {l : List α} {ps : List (List PV)},VFss (l.map e) ps → ps = l.map e := by
 intro l
 induction l with
 | nil => intro ps h; cases h; rfl
 | cons a l ih =>
   intro ps h
   cases h with
   | cons h t => rw [List.map_cons,h.base_eq (he a),ih t]
theorem zfn {α : Type} {e : α → List PV} (he : ∀ a,VFs (e a) (e a)) : ∀ l : List α,VFss (l.map e) (l.map e)
 | [] => .nil
 | a :: l => .cons (he a) (zfn he l)
theorem VF.by_ {l : By} {p : PV} (h : VF (bv l) p) : IsS RB p l := by
 unfold bv at h
 generalize hq : l.map cB = es at h
 cases h with
 | base h => cases ‹PV.base _ = true›
 | psl b b' h =>
   subst hq
   have hp := zfo (e := cB) (fun a => rfl) h
   subst hp
   refine ⟨_,.inr ⟨b',rfl⟩,?_⟩
   clear h
   induction l with
   | nil => exact .nil
   | cons a l ih => exact .cons rfl ih
 | nl b =>
   have : l = [] := by cases l <;> first | rfl | cases hq
   subst this
   exact .nil
theorem IsS.vf {l : By} {p : PV} (h : IsS RB p l) : VF (bv l) p := by
 obtain ⟨es,h1,h2⟩ := h
 have he : es = l.map cB := by
  clear h1
  induction h2 with
  | nil => rfl
  | cons h _ ih => rw [List.map_cons,← ih,show _ = cB _ from h]
 rcases h1 with ⟨rfl,h3⟩ | ⟨b,rfl⟩
 ·rw [h3] at he
  unfold bv
  rw [← he]
  exact .nl false
 ·unfold bv
  rw [← he]
  refine .psl false b ?_
  rw [he]
  exact zfn (fun a => .cons (.base _ rfl) .nil) l
theorem zxr {cs : List PV} (h : ∀ c ∈ cs,c.plain = true) (σ : Store) : fz zp σ (.agg cs) = .agg cs := by
 show PV.agg (cs.map (fz 7 σ)) = _
 rw [vo h 6]
theorem zu1 {cs : List PV} (h : ∀ c ∈ cs,c.plain = true) : PV.lf.lfs cs = true := by
 induction cs with
 | nil => rfl
 | cons c cs ih =>
   unfold PV.lf.lfs
   rw [zhi (h c (.head _)),ih fun c hc => h c (.tail _ hc)]
   rfl
theorem zw9 {cs : List PV} (h : ∀ c ∈ cs,c.plain = true) : (PV.agg cs).lf = true := by
 unfold PV.lf
 exact zu1 h
theorem zyv {σ : Store} {t : TypeId} {n i ro : Nat} {e : List PV} (h : AggT Try.prog t n) (ho : σ.objs i = some (.cells ro [e])) (he : e.length = n) : zd Try.prog σ t (.ref i 0 0) = some (.agg e) := by rw [znz ho rfl,h.part he]
theorem z9n {σ : Store} {t : TypeId} {n i : Nat} {e e' : List PV} (h : qk Try.prog t = some n) (ho : σ.objs i = some (.cells 0 [e])) (he : e.length = n) (he' : e'.length = n) (h1 : e'.all PV.one = true) : zu Try.prog σ t (.ref i 0 0) (.agg e') = some (σ.put i (.cells 0 [e'])) :=
 zyg h ho (hah _) rfl he he' h1
theorem All2.fn {α : Type} (e : α → List PV) : ∀ l : List α,All2 (Fn e) (l.map e) l
 | [] => .nil
 | a :: l => .cons rfl (All2.fn e l)
theorem VF.slOf {α : Type} {e : α → List PV} (he : ∀ a,(e a).all PV.base = true) {l : List α} {p : PV} (h : VF (.psl false (l.map e)) p) : IsS (Fn e) p l := by
 generalize hq : l.map e = es at h
 cases h with
 | base h => cases ‹PV.base _ = true›
 | psl b b' h =>
   subst hq
   have hp := zfo he h
   subst hp
   exact ⟨_,.inr ⟨b',rfl⟩,All2.fn e l⟩
 | nl b =>
   have : l = [] := by cases l <;> first | rfl | cases hq
   subst this
   exact .nil
end Go.Pvm.S
