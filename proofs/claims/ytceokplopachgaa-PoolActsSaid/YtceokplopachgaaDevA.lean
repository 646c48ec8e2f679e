/- Part of the proof: the device: its disks' pages and streams. -/
import Derived.Test.YtceokplopachgaaEq1
import Derived.Test.YtceokplopachgaaEq2
import Derived.Test.YtceokplopachgaaEq3
import Derived.Test.YtceokplopachgaaEq4
import Derived.Test.YtceokplopachgaaEq5
import Derived.Test.YtceokplopachgaaEq
import Derived.Test.YtceokplopachgaaProg
import Derived.KernelRfl
import Derived.Test.YtceokplopachgaaP4
set_option linter.unusedSimpArgs false
set_option linter.unusedVariables false
set_option maxRecDepth 100000
namespace Go.Pvm.S
open Go.Pvm Go.Proofs
theorem hT (f : FuncId) (h : zb5 f = none := by rfl) : cfg.told f = none := by show (zb5 f).map _ = none; rw [h]; rfl
theorem TB : SlT Try.prog 33 5 1 1 := ⟨by kernel_rfl,by kernel_rfl,by kernel_rfl,⟨.int .u8 0,by kernel_rfl,rfl,rfl⟩,by decide,by decide⟩
theorem uB : Try.prog.underlying 5 = some (.int .u8) := by kernel_rfl
theorem z9j : Try.prog.underlying 9 = some .string := by kernel_rfl
theorem z06 (σ : Store) : xt Try.prog σ 33 0 [] = some (.lsl σ.next 1 0 0 (some 0),σ.push (.cells 0 [])) := by kernel_rfl
theorem oInt : OneT Try.prog 3 := .of (by kernel_rfl) (by kernel_rfl)
theorem oBool : OneT Try.prog 4 := .of (by kernel_rfl) (by kernel_rfl)
theorem otB : OneT Try.prog 33 := .of (by kernel_rfl) (by kernel_rfl)
theorem otW : OneT Try.prog 54 := .of (by kernel_rfl) (by kernel_rfl)
theorem otT : OneT Try.prog 55 := .of (by kernel_rfl) (by kernel_rfl)
theorem q9 {x : Int} (h1 : -4611686018427387904 ≤ x) (h2 : x < 4611686018427387904) : IntKind.wrap .i64 x = x := zap (by omega) (by omega)
theorem qc {σ : Store} {t : TypeId} (h : OneT Try.prog t) {id off : Nat} {c : List PV} {v : PV} {ro : Nat} (ho : σ.objs id = some (.cells ro [c])) (hc : c[off]? = some v) : zd Try.prog σ t (.ref id 0 off) = some v := by
 rw [znz ho rfl,h.part,hc]
theorem zbi {σ : Store} {t : TypeId} (h : OneT Try.prog t) {id off : Nat} {c : List PV} {v : PV} (ho : σ.objs id = some (.cells 0 [c])) (hc : off < c.length) (h1 : v.cells = [v]) (h2 : v.one = true) : zu Try.prog σ t (.ref id 0 off) v = some (σ.put id (.cells 0 [c.set off v])) := by
 rw [zlu h.1 ho (hah _) rfl (by rw [h1]; rfl) (by omega) (by rw [h1]; simp [h2]),h1]
 have : over c off [v] = c.set off v := by
  unfold over
  rw [List.set_eq_take_append_cons_drop,if_pos hc]
  simp
 rw [this]
 rfl
theorem AxS.one {α : Type} {R : ElR α} {σ : Store} {sz : Nat} {v : PV} {l : List α} (h : AxS R σ sz v l) : v.cells = [v] ∧ v.one = true := by
 obtain ⟨es,h1,_⟩ := h
 rcases h1 with ⟨rfl,_⟩ | rfl | ⟨_,_,_,rfl,_⟩ <;> exact ⟨rfl,rfl⟩
abbrev By := List UInt8
structure Dk where
 pg : By
 base : Int
 st : By
structure Tn where
 b : By
 trim : Bool
 place : Int
structure Dv where
 seen : Dk
 kept : Dk
 ws : List (Int × By)
 ts : List Tn
 armed : Int
 gone : Bool
def putP (pg : By) (w : Int × By) : By := pg.take (128 * w.1.toNat) ++ w.2 ++ pg.drop (128 * w.1.toNat + 128)
def Dk.put (x : Dk) (w : Int × By) : Dk := { x with pg := putP x.pg w }
def Dk.turn (x : Dk) (t : Tn) : Dk := if t.trim = true then { x with st := x.st.drop (t.place - x.base).toNat,base := t.place } else { x with st := x.st ++ t.b }
def Dv.counts (d : Dv) (n : Int) : Int × Dv :=
 if d.gone = true then (0,d) else if d.armed < 0 then (n,d) else if n > d.armed then (d.armed,{ d with gone := true,armed := 0 }) else (n,{ d with armed := d.armed - n })
def RW : ElR (Int × By) := fun e a => ∃ u,e = [.int .i64 a.1,u] ∧ IsS RB u a.2
def RT : ElR Tn := fun e a => ∃ u,e = [u,.bool a.trim,.int .i64 a.place] ∧ IsS RB u a.b
theorem okW : ROk 2 RW := ⟨fun e m h => by obtain ⟨u,rfl,_⟩ := h; rfl,fun e m h c hc => by
 obtain ⟨u,rfl,hu⟩ := h
 rcases ha6.1 hc with rfl | hc
 ·rfl
 ·rw [ham.1 hc]; exact hu.plain⟩
theorem okT : ROk 3 RT := ⟨fun e m h => by obtain ⟨u,rfl,_⟩ := h; rfl,fun e m h c hc => by
 obtain ⟨u,rfl,hu⟩ := h
 rcases ha6.1 hc with rfl | hc
 ·exact hu.plain
 rcases ha6.1 hc with rfl | hc
 ·rfl
 ·rw [ham.1 hc]; rfl⟩
theorem TW : SlT Try.prog 54 118 2 32 := ⟨by kernel_rfl,by kernel_rfl,by kernel_rfl,⟨.agg [.int .i64 0,.nilsl],by kernel_rfl,rfl,rfl⟩,by decide,by decide⟩
theorem TT : SlT Try.prog 55 112 3 40 := ⟨by kernel_rfl,by kernel_rfl,by kernel_rfl,⟨.agg [.nilsl,.bool false,.int .i64 0],by kernel_rfl,rfl,rfl⟩,by decide,by decide⟩
section
variable {σ : Store} {v u : PV} {b l : By}
theorem zmb (h : IsS RB v b) (hl : b.length ≤ 1000000000) (n : Nat) : ∃ u τ,ze cfg 40 [v] (.at_ n) = some (u,τ) ∧ n ≤ τ.next ∧ u.own = true ∧ qu τ n = true ∧ (∀ i ∈ tops u,n ≤ i) ∧ AxS RB τ 1 u b ∧ (b ≠ [] → Wr RB τ 1 u b) := by
 have ev := zzw (ze cfg) (y2 cfg) (.at_ n) v
 have hb : j9 Try.prog .eql 33 .nilsl .nilsl = some (.bool true) := by kernel_rfl
 have hb2 : ∀ b es,j9 Try.prog .eql 33 (.psl b es) .nilsl = some (.bool false) := by intro b es; kernel_rfl
 have h' := h
 obtain ⟨es,h1,h2⟩ := h'
 rcases h1 with ⟨rfl,rfl⟩ | ⟨c,rfl⟩
 ·simp only [hb,za,zc,if_true] at ev
  cases h2
  exact ⟨_,_,zf (hT _) ev,hah _,rfl,j6 n,fun i hi => by (cases hi),AxS.nil _,fun h => absurd rfl h⟩
 ·simp only [hb2,za,zc,Bool.false_eq_true,if_false,z06] at ev
  have hes : es = b.map cB := h2.toMap
  by_cases hne : b = []
  ·subst hne
   cases h2
   have hw : y7 Try.prog ((Store.at_ n).push (.cells 0 [])) .append [33,33] [.lsl (Store.at_ n).next 1 0 0 (some 0),.psl c []] = some (.lsl (Store.at_ n).next 1 0 0 (some 0),(Store.at_ n).push (.cells 0 [])) := by
    rw [j5 TB.u TB.u (h.nostr)]
    exact wj TB.el rfl
   rw [hw] at ev
   simp only [za] at ev
   refine ⟨_,_,zf (hT _) ev,hbd n,rfl,x7 (j6 n) (hah _) rfl,fun i hi => ?_,AxS.fresh .nil (.at_ n) 1 rfl,fun h => absurd rfl h⟩
   simp [tops] at hi; exact Nat.le_of_eq hi.symm
  ·have hne' : es ≠ [] := by rw [hes]; simpa using hne
   have hlen : es.length = b.length := by rw [hes]; simp
   have := zvy TB (σ := (Store.at_ n).push (.cells 0 [])) (id := (Store.at_ n).next) (ro := 0) (n := 0) (es := []) (x := .psl c es) (new := es) (zn _ _) rfl (.inl (.inr ⟨c,rfl⟩)) (by rw [hes]; exact (okB.els (All2.ofMap b)).all1) hne' (by omega)
   rw [this] at ev
   simp only [za] at ev
   have hw : Wr RB (((Store.at_ n).push (.cells 0 [])).push (.cells 0 ([] ++ es))) 1 (.lsl ((Store.at_ n).push (.cells 0 [])).next 1 0 (0 + es.length) none) b :=
    ⟨_,none,es,by rw [hb4,hlen],.inl rfl,zn _ _,h2,haw _⟩
   refine ⟨_,_,zf (hT _) ev,by show n ≤ n + 1 + 1; omega,rfl,?_,fun i hi => ?_,hw.ax,fun _ => hw⟩
   ·exact x7 (x7 (j6 n) (hah _) rfl) (by show n ≤ n + 1; omega) (by rw [List.nil_append,hes]; exact zup b)
   ·simp [tops] at hi; subst hi; show n ≤ n + 1; omega
theorem zra {c2 : Cfg} (hm : c2.mode 40 = .own) (hP : c2.P = Try.prog) {sz : Nat} (h : QS RB σ 1 v b) (hl : b.length ≤ 1000000000) : ∃ u τ,zi c2 (ze cfg) 40 [v] σ = some (u,τ) ∧ Mod σ τ [] ∧ (∀ i ∈ tops u,σ.next ≤ i ∧ i < τ.next) ∧ AxS RB τ 1 u b ∧ (b ≠ [] → Wr RB τ 1 u b) := by
 obtain ⟨u,τ,h1,h2,h3,h4,h5,h6,h7⟩ := zmb (h.frz okB 6) hl σ.next
 refine ⟨u,σ.join τ,zq8 hm (by rw [hP]; kernel_rfl) rfl h1 h3 h4,Mod.join h2 _,fun i hi => ⟨h5 i hi,h6.lt i hi⟩,h6.join h5,fun hne => (h7 hne).join h5⟩
theorem zrb {c2 : Cfg} (hm : c2.mode 40 = .pure) (hP : c2.P = Try.prog) (h : IsS RB v b) (hl : b.length ≤ 1000000000) (σ : Store) : ∃ v',zi c2 (ze cfg) 40 [v] σ = some (v',σ) ∧ IsS RB v' b := by
 obtain ⟨u,τ,h1,h2,h3,h4,h5,h6,h7⟩ := zmb h hl 0
 have he : Store.empty = Store.at_ 0 := rfl
 refine ⟨fz zp τ u,w8 hm (by rw [hP]; kernel_rfl) (by simp only [List.map_cons,List.map_nil]; rw [fzA h]) ?_ (.inr (z0c h.lf)),h6.frz okB 6⟩
 unfold zfv
 rw [he,h1]
 rfl
theorem zxy {c2 : Cfg} (hm : c2.mode 77 = .blind) (hP : c2.P = Try.prog) (h : AxS RB σ 1 v b) (hl : b.length ≤ 1000000000) : ∃ u,zi c2 (ze cfg) 77 [v] σ = some (u,σ) ∧ AxS RB σ 1 u b ∧ (∀ i ∈ tops u,i ∈ tops v) ∧ ∀ id sz i n cap,u = .lsl id sz i n cap → cap = some n := by
 have key : ∃ u,zai Try.prog 33 v none (some (.int .i64 (b.length : Nat))) (some (.int .i64 (b.length : Nat))) = some u ∧ AxS RB σ 1 u b ∧ (∀ i ∈ tops u,i ∈ tops v) ∧ ∀ id sz i n cap,u = .lsl id sz i n cap → cap = some n := by
  obtain ⟨es,q1,q2⟩ := h
  have hlen := q2.len
  rcases q1 with ⟨rfl,rfl⟩ | rfl | ⟨id,cap,ro,rfl,o1,o2,o3,o4⟩
  ·cases q2
   exact ⟨.nilsl,by kernel_rfl,AxS.nil _,fun i hi => by (cases hi),fun _ _ _ _ _ e => by (cases e)⟩
  ·refine ⟨.psl true es,?_,⟨es,.inr (.inl rfl),q2⟩,fun i hi => by (cases hi),fun _ _ _ _ _ e => by (cases e)⟩
   have hall : (es.all fun e => e.length == 1) = true := by
    rw [har]; intro e h; simpa using (okB.els q2).len e h
   simp only [zai,TB.u,TB.el.hsz,Option.bind_some,x8,zgg]
   rw [if_neg (by simp),if_pos ⟨hbe _,hah _,by omega,hall⟩]
   simp [hlen]
   rw [← hlen,List.take_length]
  ·refine ⟨.lsl id 1 0 es.length (some es.length),?_,⟨es,.inr (.inr ⟨id,some es.length,ro,rfl,o1,o2,.inr rfl,o4⟩),q2⟩,fun i hi => hi,fun _ _ _ _ _ e => by (cases e; rfl)⟩
   simp only [zai,TB.u,TB.el.hsz,Option.bind_some,x8,zgg]
   have hcg : b.length ≤ cap.getD es.length := by rcases o3 with rfl | rfl <;> simp <;> omega
   rw [if_neg (by simp),if_neg (by simp),if_pos ⟨hbe _,hah _,hcg⟩]
   simp [hlen]
 obtain ⟨u,k1,k2,k3,k4⟩ := key
 have ev := z0j (ze cfg) (y2 cfg) .empty v
 have hlen : jd Try.prog .len [33] [v] = some (.int .i64 (b.length : Nat)) := h.len TB
 simp only [hlen,za,zb,k1] at ev
 exact ⟨u,zlg hm (by rw [hP]; kernel_rfl) (zf (hT _) ev) rfl,k2,k3,k4⟩
end
end Go.Pvm.S
