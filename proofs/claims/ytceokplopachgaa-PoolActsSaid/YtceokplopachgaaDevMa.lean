/- Part of the proof: what is not synced. -/
import Derived.Test.YtceokplopachgaaDevH
set_option linter.unusedSimpArgs false
set_option linter.unusedVariables false
set_option maxRecDepth 100000
namespace Go.Pvm.S
open Go.Pvm Go.Proofs
def z6v : List Tn → Int
 | [] => 0
 | t :: r => t.units + z6v r
theorem z5x (t : Tn) : 0 ≤ t.units := by unfold Tn.units; split <;> omega
theorem z6u : ∀ ts : List Tn,0 ≤ z6v ts
 | [] => Int.le_refl _
 | t :: ts => by have := z5x t; have := z6u ts; show 0 ≤ t.units + z6v ts; omega
theorem z7f {ts : List Tn} (h : ∀ t ∈ ts,t.units ≤ 1000000000) : z6v ts ≤ 1000000000 * ts.length := by
 induction ts with
 | nil => show (0 : Int) ≤ _; simp
 | cons t ts ih =>
   have h1 := h t (.head _)
   have h2 := ih fun x hx => h x (.tail _ hx)
   show t.units + z6v ts ≤ _
   rw [List.length_cons]
   omega
theorem z6m : ∀ (ts : List Tn) (x : Dk),oks x ts → ∀ t ∈ ts,t.units ≤ 1000000000
 | [],_,_,t,h => by cases h
 | s :: ts,x,h,t,ht => by
   rcases ha6.1 ht with rfl | ht
   ·unfold Tn.units
    have := h.2.2.1
    split <;> omega
   ·exact z6m ts _ h.2.2.2 t ht
section
variable {σ : Store} {v u : PV} {id : Nat} {g : Nat → Nat} {d : Dv} {a b l l' : By}
theorem ybd (σ : Store) (x y z : PV) : zd Try.prog σ 112 (.pref [x,y,z]) = some (.agg [x,y,z]) := by kernel_rfl
theorem ybe (c0 c1 c2 c3 c4 c5 c6 c7 c8 c9 : PV) : zj Try.prog 57 (.pref [c0,c1,c2,c3,c4,c5,c6,c7,c8,c9]) 2 = some (.pref [c6,c7,c8,c9]) := by kernel_rfl
theorem ybc (σ : Store) (c : PV) (r : List PV) : zd Try.prog σ 54 (.pref (c :: r)) = some c := by kernel_rfl
theorem z6n {p : PV} {ts : List Tn} (h : IsS RT v ts) (hl : ts.length ≤ 1000000) (hu : ∀ t ∈ ts,t.units ≤ 1000000000) : ∀ (k i : Nat) (σ : Store) (acc : Int),i + k = ts.length → 0 ≤ acc → acc + z6v (ts.drop i) ≤ 1000000000000000 →
  ∃ τ,y2 cfg 59 z62 (z6z p acc v (ts.length : Nat) (i : Nat)) σ = some (.exit 0,z5f p (acc + z6v (ts.drop i)),τ)
 | 0,i,σ,acc,hi,h0,hb => by
   refine ⟨σ,yi ((z8u _ _ _ _ _ _ _ _).trans ?_)⟩
   simp only [zzr (show ts.length ≤ i by omega),Bool.false_eq_true,if_false]
   rw [List.drop_eq_nil_of_le (by omega)]
   show _ = some (Ex.exit 0,z5f p (acc + 0),σ)
   rw [Int.add_zero]
 | k + 1,i,σ,acc,hi,h0,hb => by
   have hw := haf (show i < ts.length by omega)
   obtain ⟨e,k1,w,rfl,k2⟩ := h.idx TT okT hw .i64
   have ht := hu _ (List.getElem_mem (show i < ts.length by omega))
   have hd := zk6 hw
   generalize ts[i]'(by omega) = t at k1 k2 ht hd
   rw [hd] at hb ⊢
   have hs := z6u (ts.drop (i + 1))
   have hn := z5x t
   have hb : acc + (t.units + z6v (ts.drop (i + 1))) ≤ 1000000000000000 := hb
   have wr : IntKind.wrap .i64 (acc + t.units) = acc + t.units := q9 (by omega) (by omega)
   have ev := z8u (ze cfg) (y2 cfg) σ p acc v (ts.length : Nat) (i : Nat)
   simp only [ltN (show i < ts.length by omega),if_true,k1,ybd,za,stT σ [w,.bool t.trim,.int .i64 t.place] rfl (z0a k2.plain _ _ _),ldT (zn σ (.cells 0 [[w,.bool t.trim,.int .i64 t.place]])) rfl,z4h (c2 := cfg) rfl rfl k2,zb,wr,y6 (show i < 4611686018427387904 by omega)] at ev
   obtain ⟨τ,r1⟩ := z6n h hl hu k (i + 1) _ (acc + t.units) (by omega) (by omega) (by omega)
   refine ⟨τ,yi (ev.trans r1 |>.trans ?_)⟩
   show _ = some (Ex.exit 0,z5f p (acc + (t.units + z6v (ts.drop (i + 1)))),τ)
   rw [Int.add_assoc]
theorem z75 {c2 : Cfg} (hm : c2.mode 59 = .pure) (hP : c2.P = Try.prog) (h : DevS g σ id d) (hl : d.ts.length ≤ 1000000) (hu : ∀ t ∈ d.ts,t.units ≤ 1000000000) :
  zi c2 (ze cfg) 59 [.ref id 0 0] σ = some (.tuple [.int .i64 (d.ws.length : Nat),.int .i64 (z6v d.ts)],σ) := by
 obtain ⟨p,s,q,t,w,m,e1,e2,e3,e4⟩ := zy5 h
 refine w8 hm (by rw [hP]; kernel_rfl) (by simp only [List.map_cons,List.map_nil]; rw [e1]) ?_ (.inl rfl)
 have ev := ybf (ze cfg) (y2 cfg) .empty p d.seen.base s q d.kept.base t w m d.armed d.gone
 have hb2 : ∀ l,j9 Try.prog .eql 23 (.pref l) .nilptr = some (.bool false) := by intro l; kernel_rfl
 have hs := z7f hu
 obtain ⟨τ,r1⟩ := z6n (p := .pref [p,.int .i64 d.seen.base,s,q,.int .i64 d.kept.base,t,w,m,.int .i64 d.armed,.bool d.gone]) e4 hl hu d.ts.length 0 .empty 0 (by omega) (by omega) (by rw [ha8]; omega)
 rw [zp3,ha8,Int.zero_add] at r1
 have nvp : ∀ l,zc2 (.pref l) = some (.pref l) := fun _ => rfl
 simp only [hb2,za,zc,Bool.false_eq_true,if_false,e4.len TT,zb,r1,ya,if_true,out59_5_0,out59_5_4,nvp,ybe,ybc,e3.len TW] at ev
 exact zl8 (hT _) ev rfl
end
end Go.Pvm.S
set_option linter.unusedSimpArgs false
set_option linter.unusedVariables false
set_option maxRecDepth 100000
namespace Go.Pvm.S
open Go.Pvm Go.Proofs
structure Pt where
 at_ : Int
 b : By
 trim : Bool
 to : Int
structure Rf where
 kept : Dk
 now : Dk
 done : List Pt
 gone : Bool
 armed : Int
def Pt.size (u : Pt) : Int := if u.at_ < 0 ∧ u.trim = false then (u.b.length : Nat) else 1
def Dk.part (x : Dk) (u : Pt) : Dk := if 0 ≤ u.at_ then x.put (u.at_,u.b) else x.turn ⟨u.b,u.trim,u.to⟩
def Pt.first (u : Pt) (n : Int) : Pt × Bool := if n ≥ u.size then (u,decide (u.size > 0)) else if n ≤ 0 ∨ u.at_ ≥ 0 ∨ u.trim = true then (u,false) else ({ u with b := u.b.take n.toNat },true)
def Rf.act (d : Rf) (u : Pt) : Rf :=
 if d.gone = true then { d with now := d.now.part u } else
 if 0 ≤ d.armed ∧ u.size > d.armed then
  { kept := d.kept,now := d.now.part u,done := if (u.first d.armed).2 = true then d.done ++ [(u.first d.armed).1] else d.done,gone := true,armed := 0 }
 else { kept := d.kept,now := d.now.part u,done := if (u.first u.size).2 = true then d.done ++ [(u.first u.size).1] else d.done,gone := false,armed := if 0 ≤ d.armed then d.armed - u.size else d.armed }
def z6s : List Pt → List (Int × By)
 | [] => []
 | u :: r => if 0 ≤ u.at_ then (u.at_,u.b) :: z6s r else z6s r
def z5t : List Pt → List Tn
 | [] => []
 | u :: r => if 0 ≤ u.at_ then z5t r else ⟨u.b,u.trim,u.to⟩ :: z5t r
theorem z5a (u : Pt) (r : List Pt) : z6s (u :: r) = if 0 ≤ u.at_ then (u.at_,u.b) :: z6s r else z6s r := rfl
theorem z43 (u : Pt) (r : List Pt) : z5t (u :: r) = if 0 ≤ u.at_ then z5t r else ⟨u.b,u.trim,u.to⟩ :: z5t r := rfl
theorem z5w : ∀ a b : List Pt,z6s (a ++ b) = z6s a ++ z6s b
 | [],b => rfl
 | u :: a,b => by
   rw [List.cons_append,z5a,z5a,z5w a b]
   split <;> rfl
theorem z5g : ∀ a b : List Pt,z5t (a ++ b) = z5t a ++ z5t b
 | [],b => rfl
 | u :: a,b => by
   rw [List.cons_append,z43,z43,z5g a b]
   split <;> rfl
structure Sim (d : Dv) (r : Rf) : Prop where
 k : r.kept = d.kept
 n : r.now = d.seen
 g : r.gone = d.gone
 a : r.armed = d.armed
 w : z6s r.done = d.ws
 t : z5t r.done = d.ts
 p : ∀ u ∈ r.done,0 < u.size
theorem z8b {d : Dv} {w : Int × By} (hg : d.gone = true) : d.wr1 w = { d with seen := d.seen.put w } := by simp [Dv.wr1,Dv.counts,hg]
theorem z8c {d : Dv} {w : Int × By} (hg : d.gone = false) (ha : d.armed < 0) : d.wr1 w = { d with seen := d.seen.put w,ws := d.ws ++ [w] } := by simp [Dv.wr1,Dv.counts,hg,ha]
theorem z8a {d : Dv} {w : Int × By} (hg : d.gone = false) (ha : d.armed = 0) : d.wr1 w = { d with seen := d.seen.put w,gone := true,armed := 0 } := by simp [Dv.wr1,Dv.counts,hg,ha]
theorem z79 {d : Dv} {w : Int × By} (hg : d.gone = false) (ha : 0 < d.armed) : d.wr1 w = { d with seen := d.seen.put w,ws := d.ws ++ [w],armed := d.armed - 1 } := by
 have h1 : ¬ d.armed < 0 := by omega
 have h2 : ¬ (1 : Int) > d.armed := by omega
 simp [Dv.wr1,Dv.counts,hg,h1,h2]
theorem z69 {r : Rf} {u : Pt} (hg : r.gone = true) : r.act u = { r with now := r.now.part u } := by simp [Rf.act,hg]
theorem z7a {r : Rf} {u : Pt} (hg : r.gone = false) (ha : r.armed < 0) (hf : (u.first u.size) = (u,true)) : r.act u = { r with now := r.now.part u,done := r.done ++ [u] } := by
 have h1 : ¬ 0 ≤ r.armed := by omega
 simp [Rf.act,hg,h1,hf]
theorem z8s {r : Rf} {u : Pt} (hg : r.gone = false) (hs : u.size ≤ 0) (h0 : 0 ≤ u.size) (hf : (u.first u.size) = (u,false)) : r.act u = { r with now := r.now.part u } := by
 have h1 : u.size = 0 := by omega
 by_cases h : 0 ≤ r.armed
 ·have h2 : ¬ u.size > r.armed := by omega
  have h3 : ¬ (0 : Int) > r.armed := by omega
  rw [h1] at hf
  simp [Rf.act,hg,h,h1,h3,hf]
 ·rw [h1] at hf
  simp [Rf.act,hg,h,h1,hf]
theorem z68 {r : Rf} {u : Pt} (hg : r.gone = false) (ha : 0 ≤ r.armed) (hs : u.size ≤ r.armed) (hf : (u.first u.size) = (u,true)) : r.act u = { r with now := r.now.part u,done := r.done ++ [u],armed := r.armed - u.size } := by
 have h1 : ¬ u.size > r.armed := by omega
 simp [Rf.act,hg,ha,h1,hf]
theorem z76 {r : Rf} {u : Pt} (hg : r.gone = false) (ha : 0 ≤ r.armed) (hs : u.size > r.armed) : r.act u = { r with now := r.now.part u,done := if (u.first r.armed).2 = true then r.done ++ [(u.first r.armed).1] else r.done,gone := true,armed := 0 } := by
 simp [Rf.act,hg,ha,hs]
theorem z6q {u : Pt} (h : 0 < u.size) : u.first u.size = (u,true) := by
 unfold Pt.first
 rw [if_pos (Int.le_refl _),decide_eq_true h]
theorem z6p {u : Pt} {n : Int} (h : ¬ n ≥ u.size) (h2 : u.at_ ≥ 0 ∨ u.trim = true ∨ n ≤ 0) : u.first n = (u,false) := by
 unfold Pt.first
 rw [if_neg h,if_pos]
 rcases h2 with h2 | h2 | h2
 ·exact .inr (.inl h2)
 ·exact .inr (.inr h2)
 ·exact .inl h2
theorem Sim.snocW {d : Dv} {r : Rf} (h : Sim d r) {u : Pt} (hu : 0 ≤ u.at_) : z6s (r.done ++ [u]) = d.ws ++ [(u.at_,u.b)] ∧ z5t (r.done ++ [u]) = d.ts := by
 rw [z5w,z5g,h.w,h.t,z5a,z43,if_pos hu,if_pos hu]
 exact ⟨rfl,hbj _⟩
theorem Sim.snocT {d : Dv} {r : Rf} (h : Sim d r) {u : Pt} (hu : ¬ 0 ≤ u.at_) : z6s (r.done ++ [u]) = d.ws ∧ z5t (r.done ++ [u]) = d.ts ++ [⟨u.b,u.trim,u.to⟩] := by
 rw [z5w,z5g,h.w,h.t,z5a,z43,if_neg hu,if_neg hu]
 exact ⟨hbj _,rfl⟩
theorem Sim.pos {d : Dv} {r : Rf} (h : Sim d r) {u : Pt} (hu : 0 < u.size) : ∀ x ∈ r.done ++ [u],0 < x.size := fun x hx => by
 rcases hbn.1 hx with hx | hx
 ·exact h.p x hx
 ·rw [ham.1 hx]; exact hu
theorem Sim.wr1 {d : Dv} {r : Rf} (h : Sim d r) (w : Int × By) (hw : 0 ≤ w.1) : Sim (d.wr1 w) (r.act ⟨w.1,w.2,false,0⟩) := by
 have hsz : Pt.size ⟨w.1,w.2,false,0⟩ = 1 := by unfold Pt.size; rw [if_neg (by show ¬ (w.1 < 0 ∧ _); omega)]
 have hpart : r.now.part ⟨w.1,w.2,false,0⟩ = d.seen.put w := by unfold Dk.part; rw [if_pos hw,h.n]
 have hs1 : (0 : Int) < Pt.size ⟨w.1,w.2,false,0⟩ := by rw [hsz]; decide
 have hf := z6q hs1
 obtain ⟨s1,s2⟩ := h.snocW (u := ⟨w.1,w.2,false,0⟩) hw
 have hp := h.pos hs1
 cases hg : d.gone with
 | true =>
   rw [z8b hg,z69 (by rw [h.g]; exact hg),hpart]
   exact ⟨h.k,rfl,h.g,h.a,h.w,h.t,h.p⟩
 | false =>
   have hgr : r.gone = false := by rw [h.g]; exact hg
   rcases Int.lt_trichotomy d.armed 0 with ha | ha | ha
   ·rw [z8c hg ha,z7a hgr (by rw [h.a]; exact ha) hf,hpart]
    exact ⟨h.k,rfl,h.g,h.a,s1,s2,hp⟩
   ·rw [z8a hg ha,z76 hgr (by rw [h.a]; omega) (by rw [h.a,hsz]; omega),hpart,z6p (by rw [hsz,h.a]; omega) (.inl hw)]
    exact ⟨h.k,rfl,rfl,rfl,h.w,h.t,h.p⟩
   ·rw [z79 hg ha,z68 hgr (by rw [h.a]; omega) (by rw [h.a,hsz]; omega) hf,hpart,hsz,h.a]
    exact ⟨h.k,rfl,h.g,rfl,s1,s2,hp⟩
end Go.Pvm.S
set_option linter.unusedSimpArgs false
set_option linter.unusedVariables false
set_option maxRecDepth 100000
namespace Go.Pvm.S
open Go.Pvm Go.Proofs
theorem z67 (d : Dv) (b : By) : d.app b = if (({ d with seen := d.seen.turn ⟨b,false,0⟩ } : Dv).counts (b.length : Nat)).1 > 0 then { (({ d with seen := d.seen.turn ⟨b,false,0⟩ } : Dv).counts (b.length : Nat)).2 with ts := d.ts ++ [⟨b.take (({ d with seen := d.seen.turn ⟨b,false,0⟩ } : Dv).counts (b.length : Nat)).1.toNat,false,0⟩] } else (({ d with seen := d.seen.turn ⟨b,false,0⟩ } : Dv).counts (b.length : Nat)).2 := rfl
theorem z8r {d : Dv} {b : By} (hg : d.gone = true) : d.app b = { d with seen := d.seen.turn ⟨b,false,0⟩ } := by
 have hc : (({ d with seen := d.seen.turn ⟨b,false,0⟩ } : Dv).counts (b.length : Nat)) = (0,{ d with seen := d.seen.turn ⟨b,false,0⟩ }) := by simp [Dv.counts,hg]
 rw [z67,hc,if_neg (show ¬ (0 : Int) > 0 by decide)]
theorem z66 {d : Dv} {b : By} (hg : d.gone = false) (ha : d.armed < 0) : d.app b = { d with seen := d.seen.turn ⟨b,false,0⟩,ts := if 0 < b.length then d.ts ++ [⟨b,false,0⟩] else d.ts } := by
 have hc : (({ d with seen := d.seen.turn ⟨b,false,0⟩ } : Dv).counts (b.length : Nat)) = (((b.length : Nat) : Int),{ d with seen := d.seen.turn ⟨b,false,0⟩ }) := by simp [Dv.counts,hg,ha]
 rw [z67,hc]
 simp only [hax,List.take_length]
 by_cases hb : 0 < b.length
 ·rw [if_pos (by omega),if_pos hb]
 ·rw [if_neg (by omega),if_neg hb]
theorem z65 {d : Dv} {b : By} (hg : d.gone = false) (ha : ((b.length : Nat) : Int) ≤ d.armed) : d.app b = { d with seen := d.seen.turn ⟨b,false,0⟩,ts := if 0 < b.length then d.ts ++ [⟨b,false,0⟩] else d.ts,armed := d.armed - (b.length : Nat) } := by
 have h1 : ¬ d.armed < 0 := by omega
 have h2 : ¬ ((b.length : Nat) : Int) > d.armed := by omega
 have hc : (({ d with seen := d.seen.turn ⟨b,false,0⟩ } : Dv).counts (b.length : Nat)) = (((b.length : Nat) : Int),{ d with seen := d.seen.turn ⟨b,false,0⟩,armed := d.armed - (b.length : Nat) }) := by
  unfold Dv.counts
  rw [if_neg (by show ¬ d.gone = true; rw [hg]; decide),if_neg (by exact h1),if_neg (by exact h2)]
 rw [z67,hc]
 simp only [hax,List.take_length]
 by_cases hb : 0 < b.length
 ·rw [if_pos (by omega),if_pos hb]
 ·rw [if_neg (by omega),if_neg hb]
theorem z9h {d : Dv} {b : By} (hg : d.gone = false) (ha : 0 ≤ d.armed) (hb : ((b.length : Nat) : Int) > d.armed) : d.app b = { d with seen := d.seen.turn ⟨b,false,0⟩,ts := if 0 < d.armed then d.ts ++ [⟨b.take d.armed.toNat,false,0⟩] else d.ts,armed := 0,gone := true } := by
 have h1 : ¬ d.armed < 0 := by omega
 have hc : (({ d with seen := d.seen.turn ⟨b,false,0⟩ } : Dv).counts (b.length : Nat)) = (d.armed,{ d with seen := d.seen.turn ⟨b,false,0⟩,gone := true,armed := 0 }) := by
  unfold Dv.counts
  rw [if_neg (by show ¬ d.gone = true; rw [hg]; decide),if_neg (by exact h1),if_pos (by exact hb)]
 rw [z67,hc]
 by_cases h2 : 0 < d.armed
 ·rw [if_pos h2,if_pos h2]
 ·rw [if_neg h2,if_neg h2]
theorem Sim.app {d : Dv} {r : Rf} (h : Sim d r) (b : By) : Sim (d.app b) (r.act ⟨-1,b,false,0⟩) := by
 have hat : ¬ (0 : Int) ≤ Pt.at_ ⟨-1,b,false,0⟩ := by show ¬ (0 : Int) ≤ -1; decide
 have hsz : ∀ c : By,Pt.size ⟨-1,c,false,0⟩ = (c.length : Nat) := fun c => by unfold Pt.size; rw [if_pos ⟨by show (-1 : Int) < 0; decide,rfl⟩]
 have hpart : r.now.part ⟨-1,b,false,0⟩ = d.seen.turn ⟨b,false,0⟩ := by unfold Dk.part; rw [if_neg hat,h.n]
 obtain ⟨s1,s2⟩ := h.snocT hat
 cases hg : d.gone with
 | true =>
   rw [z8r hg,z69 (by rw [h.g]; exact hg),hpart]
   exact ⟨h.k,rfl,h.g,h.a,h.w,h.t,h.p⟩
 | false =>
   have hgr : r.gone = false := by rw [h.g]; exact hg
   by_cases hb : 0 < b.length
   ·have hs1 : (0 : Int) < Pt.size ⟨-1,b,false,0⟩ := by rw [hsz]; omega
    have hf := z6q hs1
    have hp := h.pos hs1
    by_cases ha : d.armed < 0
    ·rw [z66 hg ha,z7a hgr (by rw [h.a]; exact ha) hf,hpart,if_pos hb]
     exact ⟨h.k,rfl,h.g,h.a,s1,s2,hp⟩
    ·by_cases hc : ((b.length : Nat) : Int) ≤ d.armed
     ·rw [z65 hg hc,z68 hgr (by rw [h.a]; omega) (by rw [h.a,hsz]; exact hc) hf,hpart,hsz,h.a,if_pos hb]
      exact ⟨h.k,rfl,h.g,rfl,s1,s2,hp⟩
     ·rw [z9h hg (by omega) (by omega),z76 hgr (by rw [h.a]; omega) (by rw [h.a,hsz]; omega),hpart,h.a]
      by_cases h0 : 0 < d.armed
      ·have hfc : Pt.first ⟨-1,b,false,0⟩ d.armed = (⟨-1,b.take d.armed.toNat,false,0⟩,true) := by
        unfold Pt.first
        rw [hsz,if_neg (by omega),if_neg (by rintro (e | e | e)
                                             ·omega
                                             ·exact hat e
                                             ·cases e)]
       have hs2 : (0 : Int) < Pt.size ⟨-1,b.take d.armed.toNat,false,0⟩ := by rw [hsz,ha7]; omega
       obtain ⟨t1,t2⟩ := h.snocT (u := ⟨-1,b.take d.armed.toNat,false,0⟩) hat
       rw [hfc,if_pos rfl,if_pos h0]
       exact ⟨h.k,rfl,rfl,rfl,t1,t2,h.pos hs2⟩
      ·rw [z6p (by rw [hsz]; omega) (.inr (.inr (by omega))),if_neg h0,if_neg (show ¬ false = true by decide)]
       exact ⟨h.k,rfl,rfl,rfl,h.w,h.t,h.p⟩
   ·have hb0 : b.length = 0 := by omega
    have hfn : Pt.first ⟨-1,b,false,0⟩ (Pt.size ⟨-1,b,false,0⟩) = (⟨-1,b,false,0⟩,false) := by
     unfold Pt.first
     rw [if_pos (Int.le_refl _),hsz,hb0]
     rfl
    rw [z8s hgr (by rw [hsz]; omega) (by rw [hsz]; omega) hfn,hpart]
    by_cases ha : d.armed < 0
    ·rw [z66 hg ha,if_neg hb]
     exact ⟨h.k,rfl,h.g,h.a,h.w,h.t,h.p⟩
    ·rw [z65 hg (by omega),if_neg hb]
     exact ⟨h.k,rfl,h.g,by show r.armed = d.armed - (b.length : Nat); rw [h.a,hb0]; omega,h.w,h.t,h.p⟩
def Rf.sync (r : Rf) : Rf := if r.gone = true then r else { kept := r.now,now := r.now,done := [],gone := false,armed := r.armed }
theorem Sim.sync {d : Dv} {r : Rf} (h : Sim d r) {P : Nat} {T : Int} (hI : Inv P T d) : Sim d.sync r.sync := by
 unfold Dv.sync Rf.sync
 cases hg : d.gone with
 | true =>
   rw [if_pos rfl,if_pos (by rw [h.g]; exact hg)]
   exact h
 | false =>
   rw [if_neg (by decide),if_neg (by rw [h.g,hg]; decide),hI.sy hg]
   exact ⟨h.n,h.n,rfl,h.a,rfl,rfl,fun u hu => by cases hu⟩
end Go.Pvm.S
set_option linter.unusedSimpArgs false
set_option linter.unusedVariables false
set_option maxRecDepth 100000
namespace Go.Pvm.S
open Go.Pvm Go.Proofs
theorem z7c {u : Pt} (h : ¬ 0 ≤ u.at_) : u.size = Tn.units ⟨u.b,u.trim,u.to⟩ := by
 unfold Pt.size Tn.units
 cases ht : u.trim with
 | true => rw [if_neg (by rintro ⟨_,e⟩; cases e)]; rfl
 | false => rw [if_pos ⟨by omega,rfl⟩]; rfl
end Go.Pvm.S
