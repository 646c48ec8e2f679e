/- Part of the proof: ways of the proofs over values alone: loops over lists, numbers. -/
import Derived.Test.YtjfgklgcbogejaaGreatEqK
import Derived.Test.YtjfgklgcbogejaaGreatP4
set_option linter.unusedSimpArgs false
set_option linter.unusedVariables false
namespace Go.Pvm.S
open Go.Pvm Go.Proofs
noncomputable abbrev Cω : yt := k9 cfg xa
noncomputable abbrev Lω : yw := zfr cfg xa
theorem lw {f : FuncId} {cd : Code} {n0 : Nat} {e : List PV} {A : List KO} {r : Ex × List PV × List KO} (h : yx cfg xa Cω Lω f cd n0 e A = some r) : Lω f cd n0 e A = some r := zur h
theorem cw {f : FuncId} {e : List PV} {A : List KO} {r : PV × List KO} (h : yu cfg xa Cω Lω f e A = some r) : Cω f e A = some r := znb h
theorem pc {f : FuncId} {a : List PV} {v w : PV} {A : List KO} (h : yu cfg xa Cω Lω f a [] = some (v,A)) (hf : fzK xn A v = w) : yn Cω f a = some w := zw5 h hf
abbrev Out := Ex × List PV × List KO
inductive Rnd (S : Type) where
 | out (r : Out)
 | on (s : S)
def ztl {α S : Type} (step : Nat → α → S → Rnd S) (fin : S → Out) : List α → Nat → S → Out
 | [],_,s => fin s
 | a :: l,i,s => match step i a s with
   | .out r => r
   | .on s' => ztl step fin l (i + 1) s'
theorem zoj {α S : Type} {f : FuncId} {cd : Code} {n0 : Nat} (E : Nat → S → List PV) (O : Nat → S → List KO) (l : List α) (step : Nat → α → S → Rnd S) (fin : S → Out) (Inv : Nat → S → Prop)
  (h1 : ∀ i a s,l[i]? = some a → i < l.length → Inv i s → match step i a s with
   | .out r => yx cfg xa Cω Lω f cd n0 (E i s) (O i s) = some r
   | .on s' => Inv (i + 1) s' ∧ yx cfg xa Cω Lω f cd n0 (E i s) (O i s) = Lω f cd n0 (E (i + 1) s') (O (i + 1) s'))
  (h2 : ∀ s,Inv l.length s → yx cfg xa Cω Lω f cd n0 (E l.length s) (O l.length s) = some (fin s)) :
  ∀ (k i : Nat) (s : S),i + k = l.length → Inv i s → Lω f cd n0 (E i s) (O i s) = some (ztl step fin (l.drop i) i s)
 | 0,i,s,hk,hi => by
   have : i = l.length := by omega
   subst this
   rw [List.drop_length]
   exact lw (h2 s hi)
 | k + 1,i,s,hk,hi => by
   have hil : i < l.length := by omega
   have hg := List.getElem?_eq_getElem hil
   rw [List.drop_eq_getElem_cons hil]
   unfold ztl
   have := h1 i _ s hg hil hi
   cases hs : step i l[i] s with
   | out r =>
     rw [hs] at this
     exact lw this
   | on s' =>
     rw [hs] at this
     refine lw ?_
     rw [this.2]
     exact zoj E O l step fin Inv h1 h2 k (i + 1) s' (by omega) this.1
theorem zxp {α S : Type} {f : FuncId} {cd : Code} {n0 : Nat} (E : Nat → S → List PV) (O : Nat → S → List KO) (l : List α) (step : Nat → α → S → Rnd S) (fin : S → Out) (Inv : Nat → S → Prop)
  (h1 : ∀ i a s,l[i]? = some a → i < l.length → Inv i s → match step i a s with
   | .out r => yx cfg xa Cω Lω f cd n0 (E i s) (O i s) = some r
   | .on s' => Inv (i + 1) s' ∧ yx cfg xa Cω Lω f cd n0 (E i s) (O i s) = Lω f cd n0 (E (i + 1) s') (O (i + 1) s'))
  (h2 : ∀ s,Inv l.length s → yx cfg xa Cω Lω f cd n0 (E l.length s) (O l.length s) = some (fin s)) (s : S) (h0 : Inv 0 s) :
  Lω f cd n0 (E 0 s) (O 0 s) = some (ztl step fin l 0 s) := by
 have := zoj E O l step fin Inv h1 h2 l.length 0 s (by omega) h0
 rwa [List.drop_zero] at this
def allI {α : Type} (p : Nat → α → Bool) : List α → Nat → Bool
 | [],_ => true
 | a :: l,i => p i a && allI p l (i + 1)
theorem qu {α : Type} {p : Nat → α → Bool} : ∀ {l : List α} {i : Nat},allI p l i = true ↔ ∀ j a,l[j]? = some a → p (i + j) a = true
 | [],i => by simp [allI]
 | b :: l,i => by
   simp only [allI,Bool.and_eq_true,qu (l := l)]
   constructor
   ·rintro ⟨h1,h2⟩ j a h
    cases j with
    | zero => cases h; exact h1
    | succ j => have := h2 j a h; rwa [show i + 1 + j = i + (j + 1) by omega] at this
   ·intro h
    refine ⟨h 0 b rfl,fun j a hj => ?_⟩
    have := h (j + 1) a hj
    rwa [show i + (j + 1) = i + 1 + j by omega] at this
def x7 {α : Type} (p : α → Bool) : List α → Nat → Option (Nat × α)
 | [],_ => none
 | a :: l,i => if p a = true then some (i,a) else x7 p l (i + 1)
def zf2 {α β : Type} (r : Option (Nat × α)) (g : Nat → α → β) (fin : β) : β := match r with
 | some x => g x.1 x.2
 | none => fin
theorem xc {α β : Type} (x : Nat × α) (g : Nat → α → β) (fin : β) : zf2 (some x) g fin = g x.1 x.2 := rfl
theorem xq {α β : Type} (g : Nat → α → β) (fin : β) : zf2 none g fin = fin := rfl
def xb {α S : Type} (g : Nat → α → S → S) : List α → Nat → S → S
 | [],_,s => s
 | a :: l,i,s => xb g l (i + 1) (g i a s)
theorem zi2 {α : Type} {p : Nat → α → Bool} {bad : Out} {fin : Unit → Out} : ∀ (l : List α) (i : Nat),ztl (fun i a _ => if p i a = true then .on () else .out bad) fin l i () = if allI p l i = true then fin () else bad
 | [],i => by simp [ztl,allI]
 | a :: l,i => by
   simp only [ztl,allI,Bool.and_eq_true]
   by_cases h : p i a = true
   ·rw [if_pos h]
    simp only
    rw [zi2 l (i + 1)]
    simp [h]
   ·rw [if_neg h,if_neg (by simp [h])]
theorem zg6 {α : Type} {p : α → Bool} {g : Nat → α → Out} {fin : Unit → Out} : ∀ (l : List α) (i : Nat),ztl (fun i a _ => if p a = true then .out (g i a) else .on ()) fin l i () = zf2 (x7 p l i) g (fin ())
 | [],i => rfl
 | a :: l,i => by
   simp only [ztl,x7]
   by_cases h : p a = true
   ·rw [if_pos h,if_pos h]; rfl
   ·rw [if_neg h,if_neg h]
    exact zg6 l (i + 1)
theorem uf {α S : Type} {g : Nat → α → S → S} {fin : S → Out} : ∀ (l : List α) (i : Nat) (s : S),ztl (fun i a s => .on (g i a s)) fin l i s = fin (xb g l i s)
 | [],i,s => rfl
 | a :: l,i,s => uf l (i + 1) _
theorem zdw {α : Type} {f : FuncId} {cd : Code} {n0 : Nat} (E : Nat → List PV) (O : List KO) (l : List α) (p : Nat → α → Bool) (bad fin : Out)
  (h1 : ∀ i a,l[i]? = some a → i < l.length → yx cfg xa Cω Lω f cd n0 (E i) O = if p i a = true then Lω f cd n0 (E (i + 1)) O else some bad)
  (h2 : yx cfg xa Cω Lω f cd n0 (E l.length) O = some fin) : Lω f cd n0 (E 0) O = some (if allI p l 0 = true then fin else bad) := by
 have := zxp (fun i (_ : Unit) => E i) (fun _ _ => O) l (fun i a _ => if p i a = true then .on () else .out bad) (fun _ => fin) (fun _ _ => True) (fun i a s hg hi _ => by
  rw [h1 i a hg hi]
  cases h : p i a
  ·rfl
  ·exact ⟨trivial,rfl⟩) (fun _ _ => h2) () trivial
 rw [this,zi2]
theorem qr {α : Type} {f : FuncId} {cd : Code} {n0 : Nat} (E : Nat → List PV) (O : List KO) (l : List α) (p : α → Bool) (g : Nat → α → Out) (fin : Out)
  (h1 : ∀ i a,l[i]? = some a → i < l.length → yx cfg xa Cω Lω f cd n0 (E i) O = if p a = true then some (g i a) else Lω f cd n0 (E (i + 1)) O)
  (h2 : yx cfg xa Cω Lω f cd n0 (E l.length) O = some fin) : Lω f cd n0 (E 0) O = some (zf2 (x7 p l 0) g fin) := by
 have := zxp (fun i (_ : Unit) => E i) (fun _ _ => O) l (fun i a _ => if p a = true then .out (g i a) else .on ()) (fun _ => fin) (fun _ _ => True) (fun i a s hg hi _ => by
  rw [h1 i a hg hi]
  cases h : p a
  ·exact ⟨trivial,rfl⟩
  ·rfl) (fun _ _ => h2) () trivial
 rw [this,zg6]
theorem jv {α S : Type} {f : FuncId} {cd : Code} {n0 : Nat} (E : Nat → S → List PV) (O : Nat → S → List KO) (l : List α) (g : Nat → α → S → S) (fin : S → Out) (Inv : Nat → S → Prop)
  (h1 : ∀ i a s,l[i]? = some a → i < l.length → Inv i s → Inv (i + 1) (g i a s) ∧ yx cfg xa Cω Lω f cd n0 (E i s) (O i s) = Lω f cd n0 (E (i + 1) (g i a s)) (O (i + 1) (g i a s)))
  (h2 : ∀ s,Inv l.length s → yx cfg xa Cω Lω f cd n0 (E l.length s) (O l.length s) = some (fin s)) (s : S) (h0 : Inv 0 s) : Lω f cd n0 (E 0 s) (O 0 s) = some (fin (xb g l 0 s)) := by
 rw [zxp E O l (fun i a s => .on (g i a s)) fin Inv (fun i a s hg hi hs => h1 i a s hg hi hs) h2 s h0,uf]
theorem z5s {α : Type} {l : List α} {i : Nat} {a : α} (hi : i < l.length) (h0 : 0 < i) : l[i - 1]? = some (l.getD (i - 1) a) := by
 rw [List.getD_eq_getElem?_getD,List.getElem?_eq_getElem (show i - 1 < l.length by omega)]; rfl
theorem jz {α : Type} {p : α → Bool} : ∀ (l : List α) (i : Nat),(x7 p l i).isSome = l.any p
 | [],i => rfl
 | a :: l,i => by
   unfold x7
   rw [List.any_cons]
   by_cases h : p a = true
   ·rw [if_pos h,h]; rfl
   ·rw [if_neg h,jz l (i + 1)]; simp [h]
theorem zjn {α : Type} {p : α → Bool} : ∀ (l : List α) (i : Nat),(x7 p l i).map (·.2) = l.find? p
 | [],i => rfl
 | a :: l,i => by
   unfold x7
   rw [List.find?_cons]
   by_cases h : p a = true
   ·rw [if_pos h,h]; rfl
   ·have h' : p a = false := by simpa using h
    rw [if_neg h,h',zjn l (i + 1)]
theorem ql {α : Type} {p : α → Bool} : ∀ (l : List α) (i : Nat) (s : List α),xb (fun _ a s => if p a = true then s ++ [a] else s) l i s = s ++ l.filter p
 | [],i,s => by simp [xb]
 | a :: l,i,s => by
   unfold xb
   rw [ql l (i + 1)]
   by_cases h : p a = true
   ·rw [if_pos h,List.filter_cons_of_pos h,List.append_assoc]; rfl
   ·rw [if_neg h,List.filter_cons_of_neg h]
theorem zd4 {α S : Type} {g : Nat → α → S → S} (Q : Nat → S → Prop) : ∀ (l : List α) (i : Nat) (s : S),Q i s → (∀ j a s,Q j s → Q (j + 1) (g j a s)) → Q (i + l.length) (xb g l i s)
 | [],i,s,h,_ => h
 | a :: l,i,s,h,hg => by
   have := zd4 Q l (i + 1) _ (hg i a s h) hg
   rwa [show i + 1 + l.length = i + (a :: l).length by simp; omega] at this
theorem y3 {n i : Nat} (v : PV) (r : List (Nat × PV)) (h : i < n) : List.getD (mkS n ((i,v) :: r)) i .undef = v := by rw [zkx h,List.lookup_cons]; simp
theorem yz {n i j : Nat} (v : PV) (r : List (Nat × PV)) (h : i < n) (h2 : i ≠ j) : List.getD (mkS n ((j,v) :: r)) i .undef = List.getD (mkS n r) i .undef := by
 rw [zkx h,zkx h,List.lookup_cons]
 have : (i == j) = false := by simpa using h2
 rw [this]
theorem y9 {α : Type} {f : α → List PV} {l : List α} {i : Nat} {a : α} (h : l[i]? = some a) : (l.map f)[i]? = some (f a) := by rw [List.getElem?_map,h]; rfl
theorem z00 {α : Type} {f : α → List PV} {l : List α} {i : Nat} {a : α} (h : l[i]? = some a) : (l.map f).getD i [] = f a := by rw [List.getD_eq_getElem?_getD,y9 h]; rfl
theorem zbl {i : Nat} (h0 : 0 < i) (h : i < 4611686018427387904) : IntKind.wrap .i64 (((i : Nat) : Int) - 1) = ((i - 1 : Nat) : Int) := by rw [q8 (by omega) (by omega)]; omega
theorem nn (i : Nat) : (0 : Int) ≤ ((i : Nat) : Int) := Int.natCast_nonneg i
theorem zhh (i d : Nat) : xh (some (.int .i64 (i : Nat))) d = some i := by simp [xh]
theorem map_set {α : Type} {f : α → List PV} (l : List α) (i : Nat) (a : α) : (l.map f).set i (f a) = (l.set i a).map f := by rw [List.map_set]
theorem zgl {α : Type} {f : α → List PV} (l : List α) (a : α) : l.map f ++ [f a] = (l ++ [a]).map f := by rw [List.map_append]; rfl
theorem z7a {p : Prop} [Decidable p] (h : p) : decide p = true := decide_eq_true h
def ie (n : Int) : List PV := [.int .i64 n]
theorem z56 (n : Int) : (ie n).length = 1 ∧ (ie n).all PV.plain = true ∧ PV.own.owns (ie n) = true := ⟨rfl,rfl,rfl⟩
theorem z3l : qv = ie := rfl
theorem zjl : ∀ l : List Int,u0 (l.map ie) = some l
 | [] => rfl
 | n :: l => by
   show (u0 (l.map ie)).map (n :: ·) = _
   rw [zjl l]; rfl
theorem z3m {i j : Nat} (h : i + j < 4611686018427387904) : IntKind.wrap .i64 (Int.fdiv (IntKind.wrap .u64 (IntKind.wrap .i64 (((i : Nat) : Int) + ((j : Nat) : Int)))) (2 ^ (min (Int.toNat 1) (IntKind.bits .u64)))) = (((i + j) / 2 : Nat) : Int) := by
 have e : (2 : Int) ^ (min (Int.toNat 1) (IntKind.bits .u64)) = 2 := by decide
 rw [e,q8 (x := ((i : Nat) : Int) + ((j : Nat) : Int)) (by omega) (by omega),zf6 (by omega) (by omega),Int.fdiv_eq_ediv_of_nonneg _ (by decide),q8 (by omega) (by omega)]
 omega
theorem ztu {α : Type} {e : α → List PV} {l : List α} {i : Nat} (a : α) (hi : i < l.length) (hl : l.length < 4611686018427387904) (h0 : 0 < i) : (l.map e)[Int.toNat (IntKind.wrap .i64 (((i : Nat) : Int) - 1))]? = some (e (l.getD (i - 1) a)) ∧ (0 : Int) ≤ IntKind.wrap .i64 (((i : Nat) : Int) - 1) := by
 rw [zbl h0 (by omega),Int.toNat_natCast,y9 (z5s (a := a) hi h0)]
 exact ⟨rfl,nn _⟩
theorem z24 (i : Nat) : ((0 : Int) < ((i : Nat) : Int)) = (0 < i) := by simp
theorem vd {α : Type} {p : α → Bool} : ∀ {l : List α} {i : Nat} {x : Nat × α},x7 p l i = some x → i ≤ x.1 ∧ x.1 < i + l.length ∧ l[x.1 - i]? = some x.2 ∧ p x.2 = true ∧ ∀ k a,k < x.1 - i → l[k]? = some a → p a = false
 | [],i,x,h => by cases h
 | a :: l,i,x,h => by
   unfold x7 at h
   by_cases hp : p a = true
   ·rw [if_pos hp] at h
    cases h
    refine ⟨Nat.le_refl _,by simp,by simp,hp,fun k b hk _ => by omega⟩
   ·rw [if_neg hp] at h
    obtain ⟨h1,h2,h3,h4,h5⟩ := vd h
    refine ⟨by omega,by simp; omega,?_,h4,fun k b hk hb => ?_⟩
    ·rw [show x.1 - i = (x.1 - (i + 1)) + 1 by omega,List.getElem?_cons_succ]; exact h3
    ·cases k with
     | zero => cases hb; simpa using hp
     | succ k => exact h5 k b (by omega) hb
theorem z5v {a b : Nat} : ((((a : Nat) : Int) != ((b : Nat) : Int)) = true) = (a ≠ b) := by
 rw [bne_iff_ne]; simp [Int.natCast_inj]
def zdf {α : Type} (bf : α → Bool) (x : α) : List α → List α
 | [] => [x]
 | a :: l => if bf a = true then x :: a :: l else a :: zdf bf x l
def z8i {α : Type} (bf : α → Bool) (x : α) : Nat → α → Bool × List α → Bool × List α := fun _ a s => if (!s.1 && bf a) = true then (true,s.2 ++ [x] ++ [a]) else (s.1,s.2 ++ [a])
theorem zks {α : Type} {bf : α → Bool} {x : α} : ∀ {l : List α} {p : Nat},p ≤ l.length → (∀ k a,l[k]? = some a → k < p → bf a = false) → (∀ a,l[p]? = some a → bf a = true) → zdf bf x l = l.take p ++ x :: l.drop p
 | [],p,h,_,_ => by
   have : p = 0 := by simpa using h
   subst this; rfl
 | a :: l,0,h,_,h2 => by
   unfold zdf
   rw [if_pos (h2 a rfl)]; rfl
 | a :: l,p + 1,h,h1,h2 => by
   unfold zdf
   have h9 : bf a = false := h1 0 a rfl (Nat.succ_pos p)
   have ih : zdf bf x l = l.take p ++ x :: l.drop p := zks (Nat.le_of_succ_le_succ h) (fun k b hb hk => h1 (k + 1) b hb (Nat.succ_lt_succ hk)) (fun b hb => h2 b hb)
   rw [if_neg (by rw [h9]; decide),ih]
   rfl
theorem zm8 {α : Type} {lt : α → α → Prop} (tr : ∀ a b c,lt a b → lt b c → lt a c) {l : List α} (h : ∀ i a b,l[i]? = some a → l[i + 1]? = some b → lt a b) : ∀ (d i : Nat) (a b : α),l[i]? = some a → l[i + d + 1]? = some b → lt a b
 | 0,i,a,b,h1,h2 => h i a b h1 h2
 | d + 1,i,a,b,h1,h2 => by
   have hlt : i + d + 1 < l.length := by have := (List.getElem?_eq_some_iff.1 h2).1; omega
   have hg := List.getElem?_eq_getElem hlt
   exact tr _ _ _ (zm8 tr h d i a _ h1 hg) (h (i + d + 1) _ b hg h2)
theorem u6 {α : Type} {lt : α → α → Prop} (tr : ∀ a b c,lt a b → lt b c → lt a c) {l : List α} (h : ∀ i a b,l[i]? = some a → l[i + 1]? = some b → lt a b) {i j : Nat} {a b : α} (hij : i < j) (h1 : l[i]? = some a) (h2 : l[j]? = some b) : lt a b :=
 zm8 tr h (j - i - 1) i a b h1 (by rw [show i + (j - i - 1) + 1 = j by omega]; exact h2)
theorem zam {α : Type} {q : α → Bool} {l : List α} (h : ∀ (i j : Nat) (a b : α),i < j → l[i]? = some a → l[j]? = some b → q b = true → q a = true) : (l.takeWhile q).length ≤ l.length ∧ ∀ (k : Nat) (a : α),l[k]? = some a → (q a = true ↔ k < (l.takeWhile q).length) := by
 induction l with
 | nil => exact ⟨Nat.le_refl _,fun k a h => by simp at h⟩
 | cons x l ih =>
   obtain ⟨h1,h2⟩ := ih fun i j a b hij ha hb => h (i + 1) (j + 1) a b (by omega) ha hb
   by_cases hx : q x = true
   ·rw [List.takeWhile_cons_of_pos hx]
    refine ⟨by simpa using h1,fun k a hk => ?_⟩
    cases k with
    | zero => cases hk; simp [hx]
    | succ k => rw [h2 k a hk]; simp
   ·rw [List.takeWhile_cons_of_neg hx]
    refine ⟨by simp,fun k a hk => ⟨fun hq => ?_,fun hk => by simp at hk⟩⟩
    cases k with
    | zero => cases hk; exact absurd hq hx
    | succ k => exact absurd (h 0 (k + 1) x a (by omega) rfl hk hq) hx
theorem zwf : ((0 : Nat) : Int) = 0 := rfl
end Go.Pvm.S
