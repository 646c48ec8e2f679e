import Derived.Test.YtceokplopachgaaP1
import Derived.MapKept
import Derived.Laws.Externs
import Derived.KernelRfl
/- Part of the proof: 'append', 'copy', 'clear'. -/
set_option linter.unusedSimpArgs false
set_option linter.unusedVariables false
namespace Go.Pvm
section
variable {P : Program} {ρ : Where} {F : xx} {w : World} {σ : Store}
theorem ze8 {α : Type} {sz : Nat} (h0 : 0 < sz) : ∀ (es : List (List α)),(∀ e ∈ es,e.length = sz) → ∀ k : Nat,es.flatten[k]? = (es[k / sz]?).bind fun e => e[k % sz]?
 | [],_,k => by simp
 | e :: r,hs,k => by
   have he : e.length = sz := hs e (by simp)
   rw [List.flatten_cons,List.getElem?_append,he]
   split
   ·rename_i h
    rw [Nat.div_eq_of_lt h,Nat.mod_eq_of_lt h]
    rfl
   ·rename_i h
    have e1 : k / sz = (k - sz) / sz + 1 := Nat.div_eq_sub_div h0 (by omega)
    have e2 : k % sz = (k - sz) % sz := Nat.mod_eq_sub_mod (by omega)
    rw [ze8 h0 r (fun x hx => hs x (by simp [hx])),e1,e2,List.getElem?_cons_succ]
theorem Flat.vrs {sz : Nat} {es : List (List PV)} {arr : Array Value} (h : Flat ρ F w sz es arr) (h0 : 0 < sz) (hl : arr.size = es.length * sz) : VRs ρ F w es.flatten arr.toList := by
 refine ⟨by rw [z8 es h.1]; simpa using hl,fun k x u e e' => ?_⟩
 rw [ze8 h0 es h.1,haa] at e
 obtain ⟨l,h1,h2⟩ := e
 obtain ⟨v,h3,h4⟩ := h.2.2 _ _ h1 _ _ h2
 rw [Nat.div_add_mod' k sz] at h3
 have : arr[k]? = some u := by simpa using e'
 rw [this] at h3
 cases h3
 exact h4
theorem Flat.of_vrs {sz : Nat} {es : List (List PV)} {us rest : List Value} (hs : ∀ e ∈ es,e.length = sz) (h : VRs ρ F w es.flatten us) : Flat ρ F w sz es (us ++ rest).toArray := by
 have hl := z8 es hs
 refine ⟨hs,by have := h.1; simp; omega,fun i e he j x hx => ?_⟩
 obtain ⟨u,h1,h2⟩ := h.get (uj es hs i j e x he hx)
 refine ⟨u,?_,h2⟩
 rw [List.getElem?_toArray,hbh (had.1 h1).1]
 exact h1
theorem zpi {w' : World} (h : w'.heap = w.heap) (a : Addr) : w'.cell? a = w.cell? a := by simp [World.cell?,h]
theorem zbk (hs : SR ρ F σ w) {x : PV} {new : List (List PV)} (h : xo σ x = some new) {c : Value} (hx : VR ρ F w x c) {sz : Nat} (hz : ∀ e ∈ new,e.length = sz) :
  ∃ us,VRs ρ F w new.flatten us ∧ (Builtin.lenOf c).run P w = .ok new.length w ∧
    ∀ m,m ≤ new.length → ∀ w' : World,w'.heap = w.heap → (Builtin.firstCells sz m c).run P w' = .ok (us.take (m * sz)).toArray w' := by
 by_cases hstr : ∃ s,x = .str s
 ·obtain ⟨s,rfl⟩ := hstr
  obtain rfl := hx.str_inv
  simp only [xo,Option.some.injEq] at h
  subst h
  refine ⟨s.data.toList.map fun b => .int .u8 b.toNat,?_,by simp [Builtin.lenOf],fun m hm w' hh => ?_⟩
  ·have hf : (s.data.toList.map fun b => [PV.int .u8 (b.toNat : Int)]).flatten = s.data.toList.map fun b => PV.int .u8 (b.toNat : Int) := by
    generalize s.data.toList = l
    induction l with
    | nil => rfl
    | cons a r ih => rw [List.map_cons,List.flatten_cons,ih]; rfl
   rw [hf]
   refine ⟨by simp,fun i c u e e' => ?_⟩
   rw [hav,hac] at e e'
   obtain ⟨a,h1,rfl⟩ := e
   obtain ⟨b,h2,rfl⟩ := e'
   rw [h1] at h2
   cases h2
   exact .pure (.int _ _)
  ·have hsz : m * sz = m ∨ m = 0 := by
    cases hl : s.data.toList with
    | nil => rw [hl] at hm; simp at hm; exact .inr hm
    | cons a r =>
      have := hz [.int .u8 (a.toNat : Int)] (by rw [hl]; simp)
      simp at this
      subst this
      exact .inl (Nat.mul_one m)
   have hsz' : m * sz = m := by rcases hsz with h | h; exact h; subst h; simp
   rw [hsz']
   simp only [Builtin.firstCells,Sem.run_pure]
   congr 1
   apply Array.ext'
   simp [List.extract_eq_take_drop]
 ·obtain ⟨a,k,us,rfl,h1,h2⟩ := zjj h (fun s e => hstr ⟨s,e⟩) hs hx hz
  refine ⟨us,h1,by simp [Builtin.lenOf],fun m hm w' hh => ?_⟩
  have hl : us.length = new.length * sz := by rw [h1.1,z8 new hz]
  rcases Nat.eq_zero_or_pos new.length with h0 | h0
  ·have : m = 0 := by omega
   subst this
   cases a with
   | none => simp [Builtin.firstCells]
   | some a => simp [Builtin.firstCells,loadCells,loadCellsFrom]
  ·obtain ⟨b,o,rfl,h3⟩ := h2 h0
   refine run_firstCells_some (P := P) w' sz m ⟨b,o,none⟩ new.length k (us.take (m * sz)) ?_ fun j v e => ?_
   ·have : m * sz ≤ new.length * sz := ha2 _ hm
    simp; omega
   ·rw [List.getElem?_take] at e
    split at e
    ·rw [wm,zpi hh]; exact h3 j v e
    ·cases e
def zx6 (d : TypeDesc) : Prop := (∃ e,d = .slice e) ∨ d = .string
theorem zl2 {t u ty el : TypeId} {d : TypeDesc} (ht : P.underlying t = some (.slice el)) (hu : P.underlying u = some d) (hd : zx6 d) {i : TypeInfo} (hi : P.info? el = some i)
  {a : Option Addr} {sLen sCap n : Nat} {cx : Value} {us : List Value} (hlen : (Builtin.lenOf cx).run P w = .ok n w) (hnew : (Builtin.firstCells i.size n cx).run P w = .ok us.toArray w) (hroom : sLen + n ≤ sCap)
  {w' : World} (hst : ∀ b,a = some b → (storeCells (b.add (sLen * i.size)) us).run P w = .ok () w') (hno : a = none → w' = w) :
  (Builtin.append_ #[t,u] ty #[.slice a sLen sCap,cx]).run P w = .ok (.slice a (sLen + n) sCap) w' := by
 rcases hd with ⟨e,rfl⟩ | rfl <;>
 ·cases a with
  | none =>
    obtain rfl := hno rfl
    simp [Builtin.append_,run_underlying ht,run_underlying hu,sizeOf,typeInfo,hi,hlen,hnew,hroom]
  | some b =>
    have := hst b rfl
    simp [Builtin.append_,run_underlying ht,run_underlying hu,sizeOf,typeInfo,hi,hlen,hnew,hroom,this]
theorem zmq {t u ty el : TypeId} {d : TypeDesc} (ht : P.underlying t = some (.slice el)) (hu : P.underlying u = some d) (hd : zx6 d) {i : TypeInfo} {z : Value} (hi : P.info? el = some i) (hz : i.zero = some z)
  {a : Option Addr} {sLen sCap n : Nat} {cx : Value} {us0 us : List Value} (hlen : (Builtin.lenOf cx).run P w = .ok n w) (hnew : (Builtin.firstCells i.size n cx).run P w.drew = .ok us.toArray w.drew)
  (hold : (Builtin.firstCells i.size sLen (.slice a sLen sCap)).run P w.drew = .ok us0.toArray w.drew)
  (hroom : sCap < sLen + n) (hb0 : i.bytes ≠ 0) (hb : (sLen + n) * i.bytes ≤ 140737488355328) :
  (Builtin.append_ #[t,u] ty #[.slice a sLen sCap,cx]).run P w = .ok (.slice (some ⟨w.heap.size,0,none⟩) (sLen + n) (grownCap w (sLen + n) sCap el))
   (w.drew.alloc (.cells (us0 ++ us ++ (Builtin.zeroCells z.cells (grownCap w (sLen + n) sCap el - (sLen + n))).toList).toArray el)) := by
 have hn : ¬ (sLen + n ≤ sCap) := by omega
 have hle : sLen + n ≤ 140737488355328 := haz (Nat.le_mul_of_pos_right _ (Nat.pos_of_ne_zero hb0)) hb
 have h63' : ¬ (9223372036854775807 < ((sLen : Int) + (n : Int))) := by omega
 have h48' : ¬ (281474976710656 < Builtin.nextslicecap (sLen + n) sCap * i.bytes) := by have := growslice_fits hroom hb; omega
 rcases hd with ⟨e,rfl⟩ | rfl <;>
 ·simp [Builtin.append_,run_underlying ht,run_underlying hu,sizeOf,typeInfo,zeroValue,hi,hz,hlen,hn,h63',h48',Question.forced,hold,hnew,newRow,grownCap]
  congr 2
  apply Array.ext'
  simp [hbc]
end
end Go.Pvm
namespace Go.Pvm
section
variable {P : Program} {ρ : Where} {F : xx} {w : World} {σ : Store}
theorem zd9 (hs : SR ρ F σ w) (hn : ρ σ.next = none) {t u ty el : TypeId} {d : TypeDesc} (ht : P.underlying t = some (.slice el)) (hu : P.underlying u = some d) (hd : zx6 d)
  {sz by_ : Nat} {z : PV} (hsz : qk P el = some sz) (hby : zmy P el = some by_) (hz : jc P el = some z) (h0 : sz ≠ 0) (hb0 : by_ ≠ 0) (hzk : z.known = true) (hzl : z.cells.length = sz)
  {a : Option Addr} {sLen sCap : Nat} {x : PV} {new old : List (List PV)} {cx : Value} (hx : xo σ x = some new) (hvx : VR ρ F w x cx) (hnz : ∀ e ∈ new,e.length = sz) (hoz : ∀ e ∈ old,e.length = sz) (hol : old.length = sLen)
  {us0 : List Value} (hus0 : VRs ρ F w old.flatten us0) (hold : (Builtin.firstCells sz sLen (.slice a sLen sCap)).run P w.drew = .ok us0.toArray w.drew)
  (hroom : sCap < sLen + new.length) (hb : (sLen + new.length) * by_ ≤ 140737488355328) (ro : Nat) (hro : ro ≤ (old ++ new).length) :
  Res P ρ F σ w (σ.push (.cells ro (old ++ new))) (.lsl σ.next sz 0 (sLen + new.length) none) (Builtin.append_ #[t,u] ty #[.slice a sLen sCap,cx]) := by
 obtain ⟨i,hi,rfl⟩ := vh hsz
 obtain ⟨i',zv,hi',hzv,rfl⟩ := ji hz
 rw [hi] at hi'
 cases hi'
 have hby' : i.bytes = by_ := by unfold zmy at hby; rw [hi] at hby; simpa using hby
 subst hby'
 obtain ⟨us,h1,h2,h3⟩ := zbk (P := P) hs hx hvx hnz
 have hfull : us.take (new.length * i.size) = us := hbi (by rw [h1.1,z8 new hnz]; exact hah _)
 have hnew := h3 new.length (hah _) w.drew rfl
 rw [hfull] at hnew
 have hr := zmq (P := P) (w := w) (ty := ty) ht hu hd hi hzv h2 hnew hold hroom hb0 hb
 have hcap : sLen + new.length ≤ grownCap w (sLen + new.length) sCap el := grownCap_ge w _ _ _
 have hzs : zv.cells.size = i.size := by have := ((wn (ρ := ρ) (F := F) (w := w) zv).cells hzk).1; simp at this; omega
 have hall : ∀ e ∈ old ++ new,e.length = i.size := fun e he => by
  rcases hbn.1 he with he | he
  ·exact hoz e he
  ·exact hnz e he
 have hvr : VRs ρ F w (old ++ new).flatten (us0 ++ us) := by rw [List.flatten_append]; exact hus0.append h1
 have hf := Flat.of_vrs (rest := (Builtin.zeroCells zv.cells (grownCap w (sLen + new.length) sCap el - (sLen + new.length))).toList) hall hvr
 have hl : (us0 ++ us).length = (sLen + new.length) * i.size := by rw [hvr.1,z8 _ hall,hak,hol]
 obtain ⟨ρ',g,s,hv⟩ := wy (w1 := w.drew.alloc (.cells (us0 ++ us ++ (Builtin.zeroCells zv.cells (grownCap w (sLen + new.length) sCap el - (sLen + new.length))).toList).toArray el)) hs hn rfl rfl rfl rfl ro hro h0 hf
  (sLen + new.length) (grownCap w (sLen + new.length) sCap el) none (by rw [hak,hol]; exact hah _) hcap (fun k hk => by cases hk) (fun _ => by rw [hak,hol]; exact hcap) (by
   have e9 : (Builtin.zeroCells zv.cells (grownCap w (sLen + new.length) sCap el - (sLen + new.length))).toList.length = (grownCap w (sLen + new.length) sCap el - (sLen + new.length)) * i.size := by simp [size_zeroCells,hzs]
   rw [List.size_toArray,hak,hl,e9,← Nat.add_mul]
   exact ha2 _ (by omega))
 exact ⟨_,ρ',F,_,hr,g,s,hv⟩
theorem zhg {new : List (List PV)} {us : List Value} (hus : VRs ρ F w new.flatten us) (h : new.length = 0) : us = [] := by
 have : new = [] := List.length_eq_zero_iff.1 h
 subst this
 exact hus.nil_inv
theorem zb1 (hs : SR ρ F σ w) {t u ty el : TypeId} {d : TypeDesc} (ht : P.underlying t = some (.slice el)) (hu : P.underlying u = some d) (hd : zx6 d) {sz : Nat} (hsz : qk P el = some sz)
  {x s : PV} {new : List (List PV)} {cx cs : Value} (hx : xo σ x = some new) (hvx : VR ρ F w x cx) (hnz : ∀ e ∈ new,e.length = sz) (h0 : new.length = 0) (hvs : VR ρ F w s cs) {a : Option Addr} {n c : Nat} (hcs : cs = .slice a n c) (hnc : n ≤ c) :
  Res P ρ F σ w σ s (Builtin.append_ #[t,u] ty #[cs,cx]) := by
 subst hcs
 obtain ⟨i,hi,rfl⟩ := vh hsz
 obtain ⟨us,h1,h2,h3⟩ := zbk (P := P) hs hx hvx hnz
 obtain rfl := zhg h1 h0
 have := h3 0 (by omega) w rfl
 rw [h0] at h2
 have hr := zl2 (P := P) (w := w) (ty := ty) (a := a) (sLen := n) (sCap := c) (us := []) ht hu hd hi h2 (by simpa using this) (by omega) (w' := w) (fun b _ => by simp [storeCells]) (fun _ => rfl)
 exact .read hs ⟨_,hr,hvs⟩
theorem zgv (hs : SR ρ F σ w) {t u ty el : TypeId} {d : TypeDesc} (ht : P.underlying t = some (.slice el)) (hu : P.underlying u = some d) (hd : zx6 d) {s x v : PV} {σ' : Store} (h : xz P σ el s x = some (v,σ'))
  (hn : ∀ id,σ.next ≤ id → id < σ'.next → ρ id = none) {cs cx : Value} (hvs : VR ρ F w s cs) (hvx : VR ρ F w x cx) : Res P ρ F σ w σ' v (Builtin.append_ #[t,u] ty #[cs,cx]) := by
 unfold xz at h
 simp only [haa] at h
 obtain ⟨sz,hsz,by_,hby,z,hz,new,hx,h⟩ := h
 split at h
 ·cases h
 ·rename_i hh
  simp only [not_or] at hh
  obtain ⟨h0,hb0,hzk,hzl⟩ := hh
  have hzk' : z.known = true := by simpa using hzk
  have hzl' : z.cells.length = sz := by simpa using hzl
  split at h
  ·cases h
  ·rename_i hall
   obtain ⟨hnz,hone⟩ := zfl (by simpa using hall)
   split at h
   ·obtain rfl := hvs.nilsl_inv
    split at h
    ·rename_i hnl
     cases h
     exact zb1 hs ht hu hd hsz hx hvx hnz hnl hvs rfl (hah _)
    ·rename_i hnl
     split at h
     ·rename_i hle
      cases h
      have := zd9 (P := P) (ty := ty) (a := none) (sLen := 0) (sCap := 0) (old := []) (us0 := []) hs (hn _ (hah _) (by simp [Store.push])) ht hu hd hsz hby hz h0 hb0 hzk' hzl' hx hvx hnz (by simp) rfl .nil (by simp [Builtin.firstCells]) (by omega) (by simpa using hle) 0 (hbe _)
      simpa using this
     ·cases h
   ·rename_i full es
    obtain ⟨sz',b,o,sp,k,rfl,hes,hlk,hfull,hcell,hsp⟩ := hvs.psl_inv
    split at h
    ·rename_i hnl
     cases h
     exact zb1 hs ht hu hd hsz hx hvx hnz hnl hvs rfl hlk
    ·rename_i hnl
     split at h
     ·rename_i hf
      split at h
      ·rename_i hle
       split at h
       ·rename_i hez
        cases h
        have hez' : ∀ e ∈ es,e.length = sz := by simpa [har] using hez
        obtain rfl := hfull hf
        by_cases hes0 : es = []
        ·subst hes0
         have := zd9 (P := P) (ty := ty) (a := some ⟨b,o,sp⟩) (sLen := 0) (sCap := 0) (old := []) (us0 := []) hs (hn _ (hah _) (by simp [Store.push])) ht hu hd hsz hby hz h0 hb0 hzk' hzl' hx hvx hnz (by simp) rfl .nil (by simp [Builtin.firstCells,loadCells,loadCellsFrom]) (by omega) (by simpa using hle) 0 (hbe _)
         simpa using this
        obtain rfl := hsp (by have := List.length_pos_iff.2 hes0; omega)
        have hcat : CellsAt ρ F w b o es.flatten := CellsAt.flatten (sz := sz') es o hes fun i e he => VP.cellsAt fun j x hx => hcell i e he j x hx
        obtain ⟨us0,q1,q2⟩ := hcat.list
        have hl0 : us0.length = es.length * sz := by rw [q1.1,z8 es hez']
        exact zd9 (P := P) (ty := ty) hs (hn _ (hah _) (by simp [Store.push])) ht hu hd hsz hby hz h0 hb0 hzk' hzl' hx hvx hnz hez' rfl q1
         (run_firstCells_some (P := P) w.drew sz es.length ⟨b,o,none⟩ _ _ us0 hl0 fun j v e => by rw [wm,World.cell?_drew]; exact q2 j v e) (by omega) hle 0 (hbe _)
       ·cases h
      ·cases h
     ·cases h
   ·rename_i id sz' idx len cap
    obtain ⟨r,b,o,c,hr,hrs,rfl,hab,hlc,hk,hkn,hph,hinn⟩ := hvs.lsl_inv
    split at h
    ·rename_i hnl
     cases h
     exact zb1 hs ht hu hd hsz hx hvx hnz hnl hvs rfl hlc
    ·rename_i hnl
     split at h
     ·cases h
     ·rename_i hsz'
      have hsz'' : sz' = sz := by simpa using hsz'
      have hrz : r.sz = sz := by rw [← hrs,hsz'']
      clear hsz'
      subst hsz''
      subst hrz
      split at h
      ·rename_i ro es ho
       have hO := hs.obj id r _ hr ho
       obtain ⟨arr,ty0,hb,hp,hnn,hes,hfit,hrn,hz0,hF,hc⟩ := hO.cells_inv
       obtain ⟨us,h1,h2,h3⟩ := zbk (P := P) hs hx hvx hnz
       have hfull : us.take (new.length * r.sz) = us := hbi (by rw [h1.1,z8 new hnz]; exact hah _)
       have hus1 : ∀ q ∈ us,q.oneCell' = true := zlq h1 fun x hx => by
        obtain ⟨e,he,hxe⟩ := List.mem_flatten.1 hx
        exact hone e he x hxe
       have hul : us.length = new.length * r.sz := by rw [h1.1,z8 new hnz]
       obtain ⟨i,hi,hisz⟩ := vh hsz
       have hroomRun : len + new.length ≤ c → r.sh + (idx + len) * r.sz + us.length ≤ arr.size →
         (Builtin.append_ #[t,u] ty #[.slice (some ⟨b,o,none⟩) len c,cx]).run P w = .ok (.slice (some ⟨b,o,none⟩) (len + new.length) c) (w.setRow r.block (laid arr (r.sh + (idx + len) * r.sz) us)) := by
        intro hroom hend
        obtain ⟨rfl,rfl⟩ := hab (by omega)
        have hnew := h3 new.length (hah _) w rfl
        rw [hfull,← hisz] at hnew
        refine zl2 (P := P) (w := w) (ty := ty) ht hu hd hi h2 hnew hroom (fun b' e => ?_) (fun e => by cases e)
        cases e
        rw [hisz,wm]
        have hst := run_storeCells_at P r.block (r.sh + idx * r.sz + len * r.sz) ty0 us 0 arr w hb (by rw [Nat.add_mul] at hend; omega) hus1
        simp only [Nat.add_zero] at hst
        rw [hst,Nat.add_mul,← Nat.add_assoc]
        rfl
       split at h
       ·rename_i hin
        split at h
        ·rename_i hro
         cases h
         have hcap : len + new.length ≤ c := by
          cases hcc : cap with
          | none => have := hkn hcc; omega
          | some k => have := hk k hcc; rw [hcc] at hin; simp at hin; omega
         obtain ⟨hend,g,s⟩ := vz hs hr ho (idx := idx + len) (new := new) hnz h1 (by omega) hro hb
         have heq : es.take (idx + len) ++ new ++ es.drop (idx + len + new.length) = kr es (idx + len) new := rfl
         rw [heq]
         refine ⟨_,ρ,F,_,hroomRun hcap hend,g,s,?_⟩
         exact .lsl id idx _ cap r b o c hr hab hcap hk hkn hph (by omega)
        ·cases h
       ·split at h
        ·rename_i hin hle
         split at h
         ·rename_i hby'
          have hold : ∃ us0,VRs ρ F w ((es.drop idx).take len).flatten us0 ∧ (Builtin.firstCells r.sz len (.slice (some ⟨b,o,none⟩) len c)).run P w.drew = .ok us0.toArray w.drew := by
           have he : xo σ (.lsl id r.sz idx len cap) = some ((es.drop idx).take len) := by simp only [xo,ho,if_pos hle]
           have hzz : ∀ e ∈ (es.drop idx).take len,e.length = r.sz := fun e he => hes e (hbu (hbr he))
           obtain ⟨us0,q1,_,q3⟩ := zbk (P := P) hs he hvs hzz
           have hlen : ((es.drop idx).take len).length = len := by simp; omega
           have := q3 len (by omega) w.drew rfl
           rw [hbi (by rw [q1.1,z8 _ hzz,hlen]; exact hah _)] at this
           exact ⟨us0,q1,this⟩
          obtain ⟨us0,q1,q2⟩ := hold
          have hzz : ∀ e ∈ (es.drop idx).take len,e.length = r.sz := fun e he => hes e (hbu (hbr he))
          have hlen : ((es.drop idx).take len).length = len := by simp; omega
          split at h
          ·rename_i k
           split at h
           ·rename_i hlt
            cases h
            obtain ⟨rfl,_⟩ := hk k rfl
            exact zd9 (P := P) (ty := ty) hs (hn _ (hah _) (by simp [Store.push])) ht hu hd hsz hby hz h0 hb0 hzk' hzl' hx hvx hnz hzz hlen q1 q2 hlt hby' 0 (hbe _)
           ·cases h
          ·split at h
           ·rename_i hro
            cases h
            by_cases hroom : len + new.length ≤ c
            ·obtain ⟨rfl,rfl⟩ := hab (by omega)
             have hbig : (idx + len + new.length) * r.sz ≤ (idx + c) * r.sz := ha2 _ (by omega)
             have hend : r.sh + (idx + len) * r.sz + us.length ≤ arr.size := by
              rw [hul,hp]
              rw [Nat.add_mul] at hbig
              omega
             have hlg := zci hend
             have hnl2 : ((es.drop idx).take len ++ new).length = len + new.length := by rw [hak,hlen]
             have hmulA : (idx + len) * r.sz = idx * r.sz + len * r.sz := Nat.add_mul _ _ _
             obtain ⟨g,s⟩ := zee (id' := σ.next) (r' := ⟨r.block,r.sh + idx * r.sz,r.sz,len + new.length,r.phys⟩) (o' := .cells (ro - idx) ((es.drop idx).take len ++ new))
              (σ' := (σ.kill id).push (.cells (ro - idx) ((es.drop idx).take len ++ new))) (arr' := laid arr (r.sh + (idx + len) * r.sz) us) hs hr ho hb (zch hend) (fun k hkF => by
               rw [hlg,if_pos]
               rcases ha4 k (r.sh + (idx + len) * r.sz) with h | h
               ·exact h
               ·have : ro * r.sz ≤ (idx + len) * r.sz := ha2 _ hro
                exact absurd hkF (hF k (by omega))) rfl (.inr ⟨rfl,hn _ (hah _) (by simp [Store.push,Store.kill])⟩)
              (fun i x e => by
               replace e : (if i = σ.next then some (Obj.cells (ro - idx) ((es.drop idx).take len ++ new)) else if i = id then none else σ.objs i) = some x := e
               by_cases hi : i = σ.next
               ·rw [if_pos hi] at e; cases e; exact .inl ⟨hi,rfl⟩
               ·rw [if_neg hi] at e
                by_cases hi2 : i = id
                ·rw [if_pos hi2] at e; cases e
                ·rw [if_neg hi2] at e; exact .inr ⟨hi,hi2,e⟩) (by simp [Store.push,Store.kill]) (fun _ => by simp [Store.push,Store.kill]) (fun i hi => by
               replace hi : σ.next + 1 ≤ i := hi
               show (if i = σ.next then some (Obj.cells (ro - idx) ((es.drop idx).take len ++ new)) else if i = id then none else σ.objs i) = none
               rw [if_neg (by omega)]
               split
               ·rfl
               ·exact hs.new i (by omega))
              (fun {ρ' w'} hnb hm => by
               refine .cells _ _ _ ty0 hnb (by rw [zch hend,hp]) hnl2 (fun e he => ?_) ?_ (by show ro - idx ≤ len + new.length; omega) hz0 (fun k hk' => ?_) fun i e he j x hx' => ?_
               ·rcases hbn.1 he with he | he
                ·exact hzz e he
                ·exact hnz e he
               ·show r.sh + idx * r.sz + (len + new.length) * r.sz ≤ r.phys
                rw [← hp]
                rw [hul] at hend
                rw [Nat.add_mul] at hend ⊢
                omega
               ·refine hF k (haz ?_ hk')
                show r.sh + ro * r.sz ≤ r.sh + idx * r.sz + (ro - idx) * r.sz
                have : ro * r.sz ≤ (idx + (ro - idx)) * r.sz := ha2 _ (by omega)
                rw [Nat.add_mul] at this
                omega
               ·show ∃ v,(laid arr (r.sh + (idx + len) * r.sz) us)[r.sh + idx * r.sz + i * r.sz + j]? = some v ∧ _
                rw [hlg]
                have hj : j < r.sz := by
                 have h1 := (had.1 hx').1
                 have : e.length = r.sz := by
                  rcases hbn.1 (haj he) with he | he
                  ·exact hzz e he
                  ·exact hnz e he
                 omega
                rw [List.getElem?_append,hlen] at he
                split at he
                ·rename_i hil
                 have := wz hil hj
                 rw [if_pos (by omega)]
                 rw [List.getElem?_take,if_pos hil,hbp] at he
                 obtain ⟨v,e1,e2⟩ := hc _ e he j x hx'
                 rw [Nat.add_mul,← Nat.add_assoc] at e1
                 exact ⟨v,e1,hm e2⟩
                ·rename_i hil
                 have hin2 : i - len < new.length := (had.1 he).1
                 have e5 := wz hin2 hj
                 have e6 : (i - len) * r.sz = i * r.sz - len * r.sz := Nat.sub_mul _ _ _
                 have e7 : len * r.sz ≤ i * r.sz := ha2 _ (by omega)
                 rw [if_neg (by omega),if_pos (by rw [hul]; omega)]
                 obtain ⟨q,e1,e2⟩ := h1.get (uj new hnz _ _ _ _ he hx')
                 exact ⟨q,by rw [← e1]; congr 1; omega,hm e2⟩)
             refine ⟨_,_,F,_,hroomRun hroom hend,g,s,?_⟩
             have := VR.lsl (ρ := ρ.put σ.next ⟨r.block,r.sh + idx * r.sz,r.sz,len + new.length,r.phys⟩) (F := F) (w := w.setRow r.block (laid arr (r.sh + (idx + len) * r.sz) us)) σ.next 0 (len + new.length) none _ r.block (r.sh + idx * r.sz) c
              (zas _ _) (fun _ => ⟨rfl,by simp⟩) hroom (fun k hk => by cases hk) (fun _ => by simpa using hroom) (by show r.sh + idx * r.sz + (0 + c) * r.sz ≤ r.phys; rw [hb4]; rw [Nat.add_mul] at hph; omega) (by simp)
             exact this
            ·have hvx' := hvx
             have hx2 : xo (σ.kill id) x = some new ∨ True := .inr trivial
             obtain ⟨i2,hi2,hisz2⟩ := vh hsz
             obtain ⟨i',zv,hi',hzv,hzeq⟩ := ji hz
             rw [hi2] at hi'
             cases hi'
             have hby2 : i2.bytes = by_ := by unfold zmy at hby; rw [hi2] at hby; simpa using hby
             have hnew := h3 new.length (hah _) w.drew rfl
             rw [hfull,← hisz2] at hnew
             rw [← hisz2] at q2
             have hrun := zmq (P := P) (w := w) (ty := ty) ht hu hd hi2 hzv h2 hnew q2 (by omega) (by rw [hby2]; exact hb0) (by rw [hby2]; exact hby')
             have hcap : len + new.length ≤ grownCap w (len + new.length) c el := grownCap_ge w _ _ _
             subst hzeq
             have hzs : zv.cells.size = r.sz := by have := ((wn (ρ := ρ) (F := F) (w := w) zv).cells hzk').1; simp at this; omega
             have hall2 : ∀ e ∈ (es.drop idx).take len ++ new,e.length = r.sz := fun e he => by
              rcases hbn.1 he with he | he
              ·exact hzz e he
              ·exact hnz e he
             have hvr : VRs ρ F w ((es.drop idx).take len ++ new).flatten (us0 ++ us) := by rw [List.flatten_append]; exact q1.append h1
             have hf := Flat.of_vrs (rest := (Builtin.zeroCells zv.cells (grownCap w (len + new.length) c el - (len + new.length))).toList) hall2 hvr
             have hl : (us0 ++ us).length = (len + new.length) * r.sz := by rw [hvr.1,z8 _ hall2,hak,hlen]
             obtain ⟨ρ',g,s,hv⟩ := wy (w1 := w.drew.alloc (.cells (us0 ++ us ++ (Builtin.zeroCells zv.cells (grownCap w (len + new.length) c el - (len + new.length))).toList).toArray el)) (hs.kill id) (hn _ (hah _) (by simp [Store.push,Store.kill])) rfl rfl rfl rfl
              (ro - idx) (by rw [hak,hlen]; omega) h0 hf (len + new.length) (grownCap w (len + new.length) c el) none (by rw [hak,hlen]; exact hah _) hcap (fun k hk => by cases hk) (fun _ => by rw [hak,hlen]; exact hcap) (by
               have e9 : (Builtin.zeroCells zv.cells (grownCap w (len + new.length) c el - (len + new.length))).toList.length = (grownCap w (len + new.length) c el - (len + new.length)) * r.sz := by simp [size_zeroCells,hzs]
               rw [List.size_toArray,hak,hl,e9,← Nat.add_mul]
               exact ha2 _ (by omega))
             exact ⟨_,ρ',F,_,hrun,(Go1.kill id).trans g,s,hv⟩
           ·cases h
         ·cases h
        ·cases h
      ·cases h
   ·cases h
end
end Go.Pvm
namespace Go.Pvm
section
variable {P : Program} {ρ : Where} {F : xx} {w : World} {σ : Store}
theorem zoz {x : Int} (h1 : -9223372036854775808 ≤ x) (h2 : x < 9223372036854775808) : IntKind.wrap .i64 x = x := by
 have e1 : ((2 : Int) ^ IntKind.bits .i64) = 18446744073709551616 := by decide
 have e2 : ((2 : Int) ^ (IntKind.bits .i64 - 1)) = 9223372036854775808 := by decide
 have e3 : IntKind.signed .i64 = true := rfl
 simp only [IntKind.wrap,e1,e2,e3,Bool.true_and,hbw]
 split <;> omega
theorem zqt {t u ty el : TypeId} {κ κ' : IntKind} (ht : P.underlying t = some (.slice el)) (hu : P.underlying u = some (.int κ)) {i : TypeInfo} {z : Value} (hi : P.info? el = some i) (hz : i.zero = some z)
  {a : Option Addr} {sLen sCap n : Nat} {us0 : List Value}
  (hold : (Builtin.firstCells i.size sLen (.slice a sLen sCap)).run P w.drew = .ok us0.toArray w.drew)
  (hroom : sCap < sLen + n) (hb0 : i.bytes ≠ 0) (h0 : n * i.size ≠ 0) (hb : (sLen + n) * i.bytes ≤ 140737488355328) :
  (Builtin.append_ #[t,u] ty #[.slice a sLen sCap,.int κ' (n : Int)]).run P w = .ok (.slice (some ⟨w.heap.size,0,none⟩) (sLen + n) (grownCap w (sLen + n) sCap el))
   (w.drew.alloc (.cells (us0 ++ (Builtin.zeroCells z.cells n).toList ++ (Builtin.zeroCells z.cells (grownCap w (sLen + n) sCap el - (sLen + n))).toList).toArray el)) := by
 have hn : ¬ (sLen + n ≤ sCap) := by omega
 have hle : sLen + n ≤ 140737488355328 := haz (Nat.le_mul_of_pos_right _ (Nat.pos_of_ne_zero hb0)) hb
 have hnb : n * i.bytes ≤ 140737488355328 := haz (ha2 _ (Nat.le_add_left _ _)) hb
 have h63' : ¬ (9223372036854775807 < ((sLen : Int) + (n : Int))) := by omega
 have h48' : ¬ (281474976710656 < Builtin.nextslicecap (sLen + n) sCap * i.bytes) := by have := growslice_fits hroom hb; omega
 have hw : IntKind.wrap .i64 (n : Int) = (n : Int) := zoz (by omega) (by omega)
 have hneg : ¬ ((n : Int) < 0) := by omega
 have hbig : ¬ ((281474976710656 : Int) < (n : Int) * (i.bytes : Int)) := by rw [← Int.natCast_mul]; omega
 simp [Builtin.append_,run_underlying ht,run_underlying hu,sizeOf,typeInfo,zeroValue,hi,hz,hn,h63',h48',Question.forced,hold,newRow,grownCap,asInt,asIntOf,hw,hneg,hbig,h0]
 congr 2
 apply Array.ext'
 simp [hbc]
theorem Flat.app {sz : Nat} {e1 e2 : List (List PV)} {a1 a2 : Array Value} (h1 : Flat ρ F w sz e1 a1) (hs : a1.size = e1.length * sz) (h2 : Flat ρ F w sz e2 a2) : Flat ρ F w sz (e1 ++ e2) (a1 ++ a2) := by
 refine ⟨fun e he => ?_,?_,fun i e he j x hx => ?_⟩
 ·rcases hbn.1 he with he | he
  ·exact h1.1 e he
  ·exact h2.1 e he
 ·rw [hak,Nat.add_mul,Array.size_append]
  have := h1.2.1; have := h2.2.1; omega
 ·rcases ha4 i e1.length with hi | hi
  ·rw [hbh hi] at he
   obtain ⟨v,q1,q2⟩ := h1.2.2 i e he j x hx
   refine ⟨v,?_,q2⟩
   rw [Array.getElem?_append_left (hbg.1 q1).1]
   exact q1
  ·rw [List.getElem?_append_right hi] at he
   obtain ⟨v,q1,q2⟩ := h2.2.2 (i - e1.length) e he j x hx
   refine ⟨v,?_,q2⟩
   have hm : e1.length * sz ≤ i * sz := ha2 _ hi
   have e9 : i * sz + j - e1.length * sz = (i - e1.length) * sz + j := by rw [Nat.sub_mul]; omega
   rw [Array.getElem?_append_right (by omega),hs,e9]
   exact q1
theorem zjd (hs : SR ρ F σ w) (hn : ρ σ.next = none) {t u ty el : TypeId} {κ κ' : IntKind} (ht : P.underlying t = some (.slice el)) (hu : P.underlying u = some (.int κ))
  {sz by_ : Nat} {z : PV} (hsz : qk P el = some sz) (hby : zmy P el = some by_) (hz : jc P el = some z) (h0 : sz ≠ 0) (hb0 : by_ ≠ 0) (hzk : z.known = true) (hzl : z.cells.length = sz)
  {a : Option Addr} {sLen sCap n : Nat} {old : List (List PV)} (hoz : ∀ e ∈ old,e.length = sz) (hol : old.length = sLen) (hn0 : n ≠ 0)
  {us0 : List Value} (hus0 : VRs ρ F w old.flatten us0) (hold : (Builtin.firstCells sz sLen (.slice a sLen sCap)).run P w.drew = .ok us0.toArray w.drew)
  (hroom : sCap < sLen + n) (hb : (sLen + n) * by_ ≤ 140737488355328) (ro : Nat) (hro : ro ≤ (old ++ List.replicate n z.cells).length) :
  Res P ρ F σ w (σ.push (.cells ro (old ++ List.replicate n z.cells))) (.lsl σ.next sz 0 (sLen + n) none) (Builtin.append_ #[t,u] ty #[.slice a sLen sCap,.int κ' (n : Int)]) := by
 obtain ⟨i,hi,rfl⟩ := vh hsz
 obtain ⟨i',zv,hi',hzv,rfl⟩ := ji hz
 rw [hi] at hi'
 cases hi'
 have hby' : i.bytes = by_ := by unfold zmy at hby; rw [hi] at hby; simpa using hby
 subst hby'
 have hr := zqt (P := P) (w := w) (ty := ty) (κ' := κ') ht hu hi hzv hold hroom hb0 (Nat.mul_ne_zero hn0 h0) hb
 have hcap : sLen + n ≤ grownCap w (sLen + n) sCap el := grownCap_ge w _ _ _
 have hzc := (wn (ρ := ρ) (F := F) (w := w) zv).cells hzk
 have hzs : zv.cells.size = i.size := by have := hzc.1; simp at this; omega
 have hl0 : us0.toArray.size = old.length * i.size := by rw [List.size_toArray,hus0.1,z8 old hoz]
 have f1 : Flat ρ F w i.size old us0.toArray := by have := Flat.of_vrs (rest := []) hoz hus0; rwa [hbj] at this
 have f2 : Flat ρ F w i.size (List.replicate n (ofValue zv).cells) (Builtin.zeroCells zv.cells n) := by
  have := Flat.replicate (n := n) hzc hzl h0
  unfold Builtin.zeroCells
  rw [hzs] at this ⊢
  exact this
 have hzn : (Builtin.zeroCells zv.cells n).size = n * i.size := by simp [size_zeroCells,hzs]
 have f3 := f1.app hl0 f2
 have f0 : Flat ρ F w i.size [] (Builtin.zeroCells zv.cells (grownCap w (sLen + n) sCap el - (sLen + n))) := ⟨(fun e he => by cases he),(by simp),fun k e he => by simp at he⟩
 have f4 := f3.app (by rw [Array.size_append,hl0,hzn,hak,List.length_replicate,Nat.add_mul]) f0
 rw [hbj] at f4
 have ea : (us0 ++ (Builtin.zeroCells zv.cells n).toList ++ (Builtin.zeroCells zv.cells (grownCap w (sLen + n) sCap el - (sLen + n))).toList).toArray = us0.toArray ++ Builtin.zeroCells zv.cells n ++ Builtin.zeroCells zv.cells (grownCap w (sLen + n) sCap el - (sLen + n)) := by
  apply Array.ext'
  simp [hbc]
 rw [← ea] at f4
 have hol' : (old ++ List.replicate n (ofValue zv).cells).length = sLen + n := by rw [hak,List.length_replicate,hol]
 obtain ⟨ρ',g,s,hv⟩ := wy (w1 := w.drew.alloc (.cells (us0 ++ (Builtin.zeroCells zv.cells n).toList ++ (Builtin.zeroCells zv.cells (grownCap w (sLen + n) sCap el - (sLen + n))).toList).toArray el)) hs hn rfl rfl rfl rfl ro hro h0 f4
  (sLen + n) (grownCap w (sLen + n) sCap el) none (by rw [hol']; exact hah _) hcap (fun k hk => by cases hk) (fun _ => by rw [hol']; exact hcap) (by
   rw [ea,Array.size_append,Array.size_append,hl0,hzn,size_zeroCells,hzs,hol,← Nat.add_mul,← Nat.add_mul]
   exact ha2 _ (by omega))
 exact ⟨_,ρ',F,_,hr,g,s,hv⟩
theorem zlo (hs : SR ρ F σ w) {t u ty el : TypeId} {κ κ' : IntKind} (ht : P.underlying t = some (.slice el)) (hu : P.underlying u = some (.int κ)) {s v : PV} {n : Int} {σ' : Store} (h : vd P σ el s n = some (v,σ'))
  (hn : ∀ id,σ.next ≤ id → id < σ'.next → ρ id = none) {cs : Value} (hvs : VR ρ F w s cs) : Res P ρ F σ w σ' v (Builtin.append_ #[t,u] ty #[cs,.int κ' n]) := by
 unfold vd at h
 simp only [haa] at h
 obtain ⟨sz,hsz,by_,hby,z,hz,h⟩ := h
 split at h
 ·cases h
 ·rename_i hh
  simp only [not_or] at hh
  obtain ⟨h0,hb0,hzk,hzl⟩ := hh
  have hzk' : z.known = true := by simpa using hzk
  have hzl' : z.cells.length = sz := by simpa using hzl
  split at h
  ·rename_i id sz' idx len c0
   split at h
   ·rename_i ro es ho
    split at h
    ·rename_i hc
     obtain ⟨e1,hn0,hlt,hby',hle⟩ := hc
     obtain ⟨r,b,o,c,hr,hrs,rfl,hab,hlc,hk,hkn,hph,hinn⟩ := hvs.lsl_inv
     have hrz : r.sz = sz := by rw [← hrs,e1]
     have hc0 := (hk c0 rfl).1
     subst hc0
     cases h
     subst e1
     subst hrz
     have hO := hs.obj id r _ hr ho
     obtain ⟨arr,ty0,hb,hp,hnn,hes,hfit,hrn,hz0,hF,hc⟩ := hO.cells_inv
     have he : xo σ (.lsl id r.sz idx len (some c)) = some ((es.drop idx).take len) := by simp only [xo,ho,if_pos hle]
     have hzz : ∀ e ∈ (es.drop idx).take len,e.length = r.sz := fun e he => hes e (hbu (hbr he))
     obtain ⟨us0,q1,_,q3⟩ := zbk (P := P) hs he hvs hzz
     have hlen : ((es.drop idx).take len).length = len := by simp; omega
     have q2 := q3 len (by omega) w.drew rfl
     rw [hbi (by rw [q1.1,z8 _ hzz,hlen]; exact hah _)] at q2
     have := zjd (P := P) (ty := ty) (κ' := κ') (n := n.toNat) hs (hn _ (hah _) (by simp [Store.push])) ht hu hsz hby hz h0 hb0 hzk' hzl' hzz hlen (by omega) q1 q2 hlt hby' 0 (hbe _)
     rw [Int.toNat_of_nonneg (by omega)] at this
     exact this
    ·cases h
   ·cases h
  ·split at h
   ·rename_i hc
    cases h
    obtain rfl := hvs.nilsl_inv
    have := zjd (P := P) (ty := ty) (κ' := κ') (n := n.toNat) (old := []) (us0 := []) hs (hn _ (hah _) (by simp [Store.push])) ht hu hsz hby hz h0 hb0 hzk' hzl' (a := none) (sLen := 0) (sCap := 0) (by simp) rfl (by omega) .nil (by simp [Builtin.firstCells]) (by omega) (by rw [hb4]; exact hc.2) 0 (hbe _)
    rw [Int.toNat_of_nonneg (by omega),hb4,List.nil_append] at this
    exact this
   ·cases h
  ·cases h
end
end Go.Pvm
namespace Go.Pvm
section
variable {P : Program} {ρ : Where} {F : xx} {w : World} {σ : Store}
theorem zfa (hs : SR ρ F σ w) {id idx len : Nat} {ro : Nat} {es new : List (List PV)} {r : Rec} {b o c : Nat} (hr : ρ id = some r) (ho : σ.objs id = some (.cells ro es)) (hab : c ≠ 0 → b = r.block ∧ o = r.sh + idx * r.sz) (hlc : len ≤ c)
  (hnl : new.length ≤ len) (hle : idx + len ≤ es.length) (hro : ro ≤ idx) {us : List Value} (hnz : ∀ e ∈ new,e.length = r.sz) (hone : ∀ e ∈ new,∀ x ∈ e,x.one = true) (hus : VRs ρ F w new.flatten us) :
  ∃ w',(storeCells ⟨b,o,none⟩ us).run P w = .ok () w' ∧ Go1 ρ F σ w ρ F (σ.put id (.cells ro (kr es idx new))) w' ∧ SR ρ F (σ.put id (.cells ro (kr es idx new))) w' := by
 obtain ⟨arr,ty,hb,hp,hnn,hes,hfit,hrn,hz0,hF,hc⟩ := (hs.obj id r _ hr ho).cells_inv
 obtain ⟨hend,g,s⟩ := vz hs hr ho (idx := idx) (new := new) hnz hus (by omega) hro hb
 rcases Nat.eq_zero_or_pos us.length with h0 | h0
 ·obtain rfl : us = [] := List.length_eq_zero_iff.1 h0
  have hl : laid arr (r.sh + idx * r.sz) [] = arr := by unfold laid; simp
  rw [hl,setRow_self w r.block arr ty (0,0) hb] at g s
  exact ⟨w,by simp [storeCells],g,s⟩
 ·have hul : us.length = new.length * r.sz := by rw [hus.1,z8 new hnz]
  have hn0 : 0 < new.length := by
   rcases Nat.eq_zero_or_pos new.length with h | h
   ·rw [h] at hul; omega
   ·exact h
  obtain ⟨rfl,rfl⟩ := hab (by omega)
  have hst := run_storeCells_at P r.block (r.sh + idx * r.sz) ty us 0 arr w hb (by simpa using hend) (zlq hus fun x hx => by
   obtain ⟨e,he,hxe⟩ := List.mem_flatten.1 hx
   exact hone e he x hxe)
  exact ⟨_,hst,g,s⟩
theorem zs5 (hs : SR ρ F σ w) {t u ty el : TypeId} (ht : P.underlying t = some (.slice el)) {d s v : PV} {σ' : Store} (h : zf0 P σ el d s = some (v,σ')) {cd cs : Value} (hvd : VR ρ F w d cd) (hvs : VR ρ F w s cs) :
  Res P ρ F σ w σ' v (Builtin.copy_ #[t,u] ty #[cd,cs]) := by
 unfold zf0 at h
 simp only [haa] at h
 obtain ⟨sz,hsz,src,hx,h⟩ := h
 split at h
 ·cases h
 ·rename_i h0
  split at h
  ·split at h
   ·rename_i hall
    cases h
    obtain rfl := hvd.nilsl_inv
    obtain ⟨hnz,hone⟩ := zfl hall
    obtain ⟨us,h1,h2,h3⟩ := zbk (P := P) hs hx hvs hnz
    have hf := h3 0 (hbe _) w rfl
    simp only [Nat.zero_mul,List.take_zero] at hf
    refine .read hs ⟨.int .i64 0,?_,.pure (.int _ _)⟩
    have hm : Nat.min src.length 0 = 0 := Nat.min_zero _
    simp [Builtin.copy_,run_underlying ht,xm hsz,h2,hm,hf,goInt]
   ·cases h
  ·rename_i id sz' idx len cap
   split at h
   ·cases h
   ·rename_i hzz
    have hzz' : sz' = sz := by simpa using hzz
    split at h
    ·rename_i ro es ho
     split at h
     ·rename_i hh
      obtain ⟨hle,hro⟩ := hh
      split at h
      ·rename_i hall
       cases h
       obtain ⟨r,b,o,c,hr,hrs,rfl,hab,hlc,hk,hkn,hph,hinn⟩ := hvd.lsl_inv
       obtain ⟨_,hone⟩ := zfl hall.2
       have hnz : ∀ e ∈ src,e.length = sz := by have := hall.1; simpa using this
       have hrz : r.sz = sz := by rw [← hrs,hzz']
       subst hrz
       obtain ⟨us,h1,h2,h3⟩ := zbk (P := P) hs hx hvs hnz
       have hft : ∀ (l : List (List PV)),(∀ e ∈ l,e.length = r.sz) → ∀ m,(l.take m).flatten = l.flatten.take (Nat.min l.length m * r.sz) := by
        intro l hl m
        have e1 : l.flatten = (l.take m).flatten ++ (l.drop m).flatten := by rw [← List.flatten_append,List.take_append_drop]
        have e2 : (l.take m).flatten.length = Nat.min l.length m * r.sz := by
         rw [z8 _ (fun e he => hl e (hbr he)),ha7,Nat.min_comm]
        rw [e1,← e2,List.take_left]
       have hus : VRs ρ F w (src.take len).flatten (us.take (Nat.min src.length len * r.sz)) := by rw [hft _ hnz]; exact h1.take _
       obtain ⟨w',e1,g,s⟩ := zfa (P := P) hs hr ho hab hlc (new := src.take len) (by simp; omega) hle hro (fun e he => hnz e (hbr he)) (fun e he => hone e he) hus
       refine ⟨.int .i64 ((Nat.min src.length len : Nat) : Int),ρ,F,w',?_,g,s,.pure (.int _ _)⟩
       have hf := h3 _ (Nat.min_le_left src.length len) w rfl
       simp [Builtin.copy_,run_underlying ht,xm hsz,h2,hf,e1,goInt]
      ·cases h
     ·cases h
    ·cases h
  ·cases h
theorem zq4 (hs : SR ρ F σ w) {t ty el : TypeId} (ht : P.underlying t = some (.slice el)) {d v : PV} {σ' : Store} (h : zbd P σ el d = some (v,σ')) {cd : Value} (hvd : VR ρ F w d cd) :
  Res P ρ F σ w σ' v (Builtin.clear_ #[t] ty #[cd]) := by
 unfold zbd at h
 simp only [haa] at h
 obtain ⟨sz,hsz,z,hz,h⟩ := h
 have hvt : ∀ {ρ' : Where} {F' : xx} {w' : World},VR ρ' F' w' (.tuple []) (.tuple #[]) := fun {ρ' F' w'} => .pure (.tuple [] [] (fun _ => .nilFunc) rfl (fun i c e => by simp at e) (fun i c e => by simp at e))
 split at h
 ·cases h
 ·rename_i hh
  simp only [not_or] at hh
  obtain ⟨h0,hk,hl,h1⟩ := hh
  obtain ⟨i,zv,hi,hzv,rfl⟩ := ji hz
  split at h
  ·cases h
   obtain rfl := hvd.nilsl_inv
   exact .read hs ⟨.tuple #[],by simp [Builtin.clear_,run_underlying ht],hvt⟩
  ·rename_i id sz' idx len cap
   split at h
   ·cases h
   ·rename_i hzz
    have hzz' : sz' = sz := by simpa using hzz
    split at h
    ·rename_i ro es ho
     split at h
     ·rename_i hh
      obtain ⟨hle,hro⟩ := hh
      cases h
      obtain ⟨r,b,o,c,hr,hrs,rfl,hab,hlc,hkk,hkn,hph,hinn⟩ := hvd.lsl_inv
      have hrz : r.sz = sz := by rw [← hrs,hzz']
      subst hrz
      have hz0 := (wn (ρ := ρ) (F := F) (w := w) zv).cells (by simpa using hk)
      have hl' : (ofValue zv).cells.length = r.sz := by simpa using hl
      have hzs : zv.cells.size = r.sz := by have := hz0.1; simp at this; omega
      have hf := Flat.replicate (n := len) hz0 hl' h0
      have hv := hf.vrs (by omega) (by simp)
      have h1' : ∀ x ∈ (ofValue zv).cells,x.one = true := by simpa [har] using h1
      obtain ⟨w',e1,g,s⟩ := zfa (P := P) hs hr ho hab hlc (new := List.replicate len (ofValue zv).cells) (by simp) hle hro (fun e he => by rw [List.eq_of_mem_replicate he]; exact hl') (fun e he => by rw [List.eq_of_mem_replicate he]; exact h1') hv
      have e2 : kr es idx (List.replicate len (ofValue zv).cells) = es.take idx ++ List.replicate len (ofValue zv).cells ++ es.drop (idx + len) := by unfold kr; simp
      rw [e2] at g s
      refine ⟨.tuple #[],ρ,F,w',?_,g,s,hvt⟩
      rcases Nat.eq_zero_or_pos len with hq | hq
      ·subst hq
       simp [storeCells,zl5] at e1
       subst e1
       simp [Builtin.clear_,run_underlying ht]
      ·have hne : len ≠ 0 := by omega
       obtain ⟨m,rfl⟩ : ∃ m,len = m + 1 := ⟨len - 1,by omega⟩
       have e3 : (Builtin.zeroCells zv.cells (m + 1)).toList = ((Array.range ((m + 1) * r.sz)).map (zv.cells[· % zv.cells.size]!)).toList := by rw [Builtin.zeroCells,hzs]
       have e4 := qt (P := P) hi hzv w
       simp only [Array.toList_map,Array.toList_range] at e1 e3
       simp [Builtin.clear_,run_underlying ht,e4,e3,e1]
     ·cases h
    ·cases h
  ·cases h
theorem zta {es : List (List PV)} {l : List UInt8} (h : bytesOf es = some l) : ∃ xs : List Int,es = xs.map (fun n => [PV.int .u8 n]) ∧ l = xs.map fun n => UInt8.ofNat n.toNat := by
 induction es generalizing l with
 | nil => simp [bytesOf] at h; subst h; exact ⟨[],rfl,rfl⟩
 | cons e r ih =>
   unfold bytesOf at h
   split at h
   ·rename_i e1; cases e1
   ·rename_i n r' e1
    cases e1
    rw [hac] at h
    obtain ⟨l',h1,rfl⟩ := h
    obtain ⟨xs,rfl,rfl⟩ := ih h1
    exact ⟨n :: xs,rfl,rfl⟩
   ·cases h
theorem zpl (hs : SR ρ F σ w) {src dst : TypeId} {x v : PV} (h : ul P σ src dst x = some v) {cx : Value} (hx : VR ρ F w x cx) : ∃ u,(convert src dst cx).run P w = .ok u w ∧ VR ρ F w v u := by
 unfold ul at h
 split at h
 ·rename_i k' k kk n h1 h2
  cases h
  obtain rfl := hx.int_inv
  exact ⟨.int k (k.wrap n),by simp [convert,run_underlying h1,run_underlying h2,Conv.intToInt],.pure (.int _ _)⟩
 ·rename_i s h1 h2
  cases h
  obtain rfl := hx.str_inv
  exact ⟨.string s,by simp [convert,run_underlying h1,run_underlying h2],.pure (.str _)⟩
 ·rename_i y _ _ y0 e h1 h2
  split at h
  ·rename_i he
   split at h
   ·cases h
   ·rename_i hns0
    simp only [haa,hac] at h
    obtain ⟨es,hes,l,hl,rfl⟩ := h
    obtain ⟨xs,rfl,rfl⟩ := zta hl
    have hnz : ∀ e ∈ xs.map (fun n => [PV.int .u8 n]),e.length = 1 := fun e he => by
     obtain ⟨n,_,rfl⟩ := List.mem_map.1 he; rfl
    have hns : ∀ s,y ≠ PV.str s := by
     rintro s rfl
     exact hns0 rfl
    obtain ⟨a,k,us,rfl,q1,q2⟩ := zjj hes hns hs hx hnz
    have hfl : ∀ xs : List Int,(xs.map (fun n => [PV.int .u8 n])).flatten = xs.map (PV.int .u8) := by
     intro xs
     induction xs with
     | nil => rfl
     | cons y r ih => rw [List.map_cons,List.flatten_cons,ih]; rfl
    rw [hfl] at q1
    refine ⟨.string (strOfNums xs),?_,.pure (.str _)⟩
    rw [han]
    rcases Nat.eq_zero_or_pos xs.length with h0 | h0
    ·obtain rfl : xs = [] := List.length_eq_zero_iff.1 h0
     rw [run_convert_bytes_string w src dst e a _ k h1 he h2]
     cases a with
     | none => simp [Conv.bytesToString,strOfNums]; rfl
     | some a => simp [Conv.bytesToString,strOfNums,loadCells,loadCellsFrom]; rfl
    ·obtain ⟨b,o,rfl,q3⟩ := q2 (by simpa using h0)
     refine run_convert_bytes_arg w src e h1 he b o xs.length k xs rfl (fun i hi => ?_) dst h2
     obtain ⟨u,e1,e2⟩ := q1.get (i := i) (c := .int .u8 xs[i]) (by simp [hi])
     obtain rfl := e2.int_inv
     rw [q3 i _ e1]
     simp [List.getD,haf hi]
  ·cases h
 ·cases h
end
end Go.Pvm
namespace Go.Pvm
section
variable {P : Program} {ρ : Where} {F : xx} {w : World} {σ : Store}
def VRo (ρ : Where) (F : xx) (w : World) (o : Option PV) (c : Option Value) : Prop :=
 match o,c with
 | none,none => True
 | some v,some u => VR ρ F w v u
 | _,_ => False
theorem zaa {o : Option PV} {d n : Nat} (h : xi o d = some n) {c : Option Value} (hc : VRo ρ F w o c) :
  (o = none ∧ c = none ∧ n = d) ∨ (o.isSome = true ∧ ∃ k,c = some (.int k (n : Int))) := by
 unfold xi at h
 split at h
 ·cases h
  cases c with
  | none => exact .inl ⟨rfl,rfl,rfl⟩
  | some u => exact hc.elim
 ·split at h
  ·rename_i k m h0
   cases h
   cases c with
   | none => exact hc.elim
   | some u =>
     obtain rfl := VR.int_inv hc
     exact .inr ⟨rfl,k,by congr 2; omega⟩
  ·cases h
 ·cases h
theorem zfq (k : IntKind) (n y : Nat) (code : BoundsCode) (h : n ≤ y) : (Instr.sliceBound (.int k (n : Int)) y code).run P w = .ok n w := by
 have : (0 : Int) ≤ n ∧ (n : Int) ≤ y := ⟨by omega,by omega⟩
 simp [Instr.sliceBound,asIntOf,this]
theorem w9 {isSl : Bool} {len cap h l m : Nat} {lo hi mx : Option PV} {clo chi cmx : Option Value} (hlo : VRo ρ F w lo clo) (hhi : VRo ρ F w hi chi) (hmx : VRo ρ F w mx cmx)
  (e1 : xi hi len = some h) (e2 : xi lo 0 = some l) {dm : Nat} (e3 : xi mx dm = some m) (hm : mx = none → dm ≤ cap ∧ m = dm) (hmc : mx.isSome = true → m ≤ cap) (hg : ¬ (mx.isSome = true ∧ hi.isSome = false)) (h1 : l ≤ h) (h2 : h ≤ m) :
  (Instr.sliceBounds isSl len cap clo chi cmx).run P w = .ok (l,h,if mx.isSome = true then m else cap) w := by
 have b := @zfq P w
 rcases zaa e3 hmx with ⟨rfl,rfl,rfl⟩ | ⟨hms,km,rfl⟩
 ·have hle := (hm rfl).1
  rcases zaa e1 hhi with ⟨rfl,rfl,rfl⟩ | ⟨_,kh,rfl⟩ <;> rcases zaa e2 hlo with ⟨rfl,rfl,rfl⟩ | ⟨_,kl,rfl⟩
  ·simp [Instr.sliceBounds]
  ·simp [Instr.sliceBounds,b kl l h _ h1]
  ·simp [Instr.sliceBounds,b kh h cap _ (by omega)]
  ·simp [Instr.sliceBounds,b kh h cap _ (by omega),b kl l h _ h1]
 ·have hle := hmc hms
  rcases zaa e1 hhi with ⟨rfl,rfl,rfl⟩ | ⟨_,kh,rfl⟩
  ·exact absurd ⟨hms,rfl⟩ hg
  ·rcases zaa e2 hlo with ⟨rfl,rfl,rfl⟩ | ⟨_,kl,rfl⟩
   ·simp [Instr.sliceBounds,b km m cap _ hle,b kh h m _ h2,hms]
   ·simp [Instr.sliceBounds,b km m cap _ hle,b kh h m _ h2,b kl l h _ h1,hms]
theorem VP.psl' {full : Bool} {es : List (List PV)} {sz b o c : Nat} (hs : ∀ e ∈ es,e.length = sz) (hc : es.length ≤ c) (hf : full = true → c = es.length)
  (h : ∀ (i : Nat) (e : List PV),es[i]? = some e → ∀ (j : Nat) (x : PV),e[j]? = some x → ∃ v,F b (o + i * sz + j) ∧ w.cell? ⟨b,o + i * sz + j,none⟩ = some v ∧ VP F w x v) :
  VP F w (.psl full es) (.slice (some ⟨b,o,none⟩) es.length c) := by
 refine .psl full es sz b o none c (fun i j => (w.cell? ⟨b,o + i * sz + j,none⟩).getD Go.undef) (fun _ => rfl) hs hc hf (fun i e he j x hx => ?_) (fun i e he j x hx => ?_)
 ·obtain ⟨v,h1,h2,_⟩ := h i e he j x hx
  exact ⟨h1,by rw [h2]; rfl⟩
 ·obtain ⟨v,h1,h2,h3⟩ := h i e he j x hx
  rw [h2]; exact h3
theorem zr3 {t : TypeId} {x v : PV} {lo hi mx : Option PV} (h : zai P t x lo hi mx = some v) {cx : Value} {clo chi cmx : Option Value} (hx : VR ρ F w x cx) (hlo : VRo ρ F w lo clo) (hhi : VRo ρ F w hi chi) (hmx : VRo ρ F w mx cmx) :
  ∃ u,(Instr.sliceAt t cx clo chi cmx).run P w = .ok u w ∧ VR ρ F w v u := by
 unfold zai at h
 split at h
 ·cases h
 ·rename_i hg
  split at h
  ·rename_i s hu
   split at h
   ·cases h
   ·rename_i hm
    simp only [haa] at h
    obtain ⟨hh,e1,l,e2,h⟩ := h
    split at h
    ·rename_i hle
     cases h
     obtain rfl := hx.str_inv
     have hmn : mx = none := by cases mx with | none => rfl | some _ => exact absurd rfl hm
     subst hmn
     obtain rfl : cmx = none := by cases cmx with | none => rfl | some _ => exact hmx.elim
     have := w9 (P := P) (isSl := false) hlo hhi (mx := none) (cmx := none) trivial e1 e2 (dm := s.size) (m := s.size) (cap := s.size) rfl (fun _ => ⟨hah _,rfl⟩) (fun h => by cases h) (by simp) hle.1 hle.2
     refine ⟨_,?_,.pure (.str _)⟩
     simp [Instr.sliceAt,run_underlying hu,Instr.slice,this]
    ·cases h
  ·rename_i el hu
   simp only [haa] at h
   obtain ⟨sz,hsz,hh,e1,l,e2,m,e3,h⟩ := h
   split at h
   ·rename_i hle
    obtain ⟨rfl,rfl,rfl⟩ := hle
    cases h
    obtain rfl := hx.nilsl_inv
    have := w9 (P := P) (isSl := true) (len := 0) (cap := 0) hlo hhi hmx e1 e2 e3 (fun _ => ⟨hah _,rfl⟩) (fun _ => hah _) hg (hah _) (hah _)
    refine ⟨.slice none 0 0,?_,hx⟩
    simp [Instr.sliceAt,run_underlying hu,Instr.slice,this,xm hsz]
   ·cases h
  ·rename_i el full es hu
   simp only [haa] at h
   obtain ⟨sz,hsz,hh,e1,l,e2,m,e3,h⟩ := h
   split at h
   ·rename_i hle
    obtain ⟨h1,h2,h3,h4⟩ := hle
    cases h
    have hes : ∀ e ∈ es,e.length = sz := by simpa [har] using h4
    obtain ⟨sz',b,o,sp,k,rfl,hs',hlk,hf,hcell,hsp⟩ := hx.psl_inv
    have hb := w9 (P := P) (isSl := true) (len := es.length) (cap := k) hlo hhi hmx e1 e2 e3 (fun hn => ⟨hlk,by subst hn; simp [xi] at e3; exact e3.symm⟩) (fun _ => by omega) hg h1 h2
    have hlen : ((es.drop l).take (hh - l)).length = hh - l := by simp; omega
    by_cases hk0 : k = 0
    ·-- a slice without room stays where it is
     subst hk0
     have hes0 : es = [] := List.length_eq_zero_iff.1 (by omega)
     subst hes0
     simp only [List.length_nil] at h3 hb
     obtain rfl : m = 0 := by omega
     obtain rfl : hh = 0 := by omega
     obtain rfl : l = 0 := by omega
     refine ⟨.slice (some ⟨b,o,sp⟩) 0 0,?_,.pure ?_⟩
     ·simp [Instr.sliceAt,run_underlying hu,Instr.slice,hb,xm hsz]
     ·exact .psl _ [] sz' b o sp 0 (fun _ _ => Go.undef) (fun h => absurd rfl h) (by simp) (hah _) (fun _ => rfl) (fun i e he => by simp at he) (fun i e he => by simp at he)
    obtain rfl := hsp hk0
    -- the address is told by the capacity
    let M := if mx.isSome = true then m else k
    have hMl : hh ≤ M := by
     show hh ≤ if mx.isSome = true then m else k
     split <;> omega
    refine ⟨.slice (some (if M = l then ⟨b,o,none⟩ else ⟨b,o + l * sz,none⟩)) (hh - l) (M - l),?_,.pure ?_⟩
    ·show (Instr.sliceAt t (.slice (some ⟨b,o,none⟩) es.length k) clo chi cmx).run P w = _
     simp only [Instr.sliceAt,Sem.run_bind,run_underlying hu,Result.andThen_ok,Instr.slice,hb,xm hsz,Sem.run_pure,Option.map_some,wm]
     congr 1
     show Value.slice (if M = l then _ else _) (hh - l) (M - l) = _
     split <;> rfl
    ·have key : ∀ o' : Nat,(∀ (i : Nat) (e : List PV),((es.drop l).take (hh - l))[i]? = some e → o' = o + l * sz) → VP F w (.psl (if mx.isSome = true then decide (m = hh) else full && decide (hh = es.length)) ((es.drop l).take (hh - l))) (.slice (some ⟨b,o',none⟩) (hh - l) (M - l)) := by
      intro o' ho'
      have := VP.psl' (F := F) (w := w) (full := if mx.isSome = true then decide (m = hh) else full && decide (hh = es.length)) (es := (es.drop l).take (hh - l)) (sz := sz) (b := b) (o := o') (c := M - l)
       (fun e he => hes e (hbu (hbr he))) (by rw [hlen]; omega) (fun hq => ?_) (fun i e he j x hx' => ?_)
      ·rwa [hlen] at this
      ·rw [hlen]
       show (if mx.isSome = true then m else k) - l = hh - l
       split
       ·rename_i hms; rw [if_pos hms] at hq; have := of_decide_eq_true hq; omega
       ·rename_i hms
        rw [if_neg hms] at hq
        simp only [haq,hbw] at hq
        rw [hf hq.1,hq.2]
      ·obtain rfl := ho' i e he
       rw [List.getElem?_take] at he
       split at he
       ·rw [hbp] at he
        have hz : sz' = sz := by rw [← hs' e (haj he)]; exact hes e (haj he)
        subst hz
        obtain ⟨v,q1,q2,q3⟩ := hcell _ e he j x hx'
        have e9 : o + (l + i) * sz' + j = o + l * sz' + i * sz' + j := by rw [Nat.add_mul]; omega
        rw [e9] at q1 q2
        exact ⟨v,q1,q2,q3⟩
       ·cases he
     by_cases hMe : M = l
     ·rw [if_pos hMe]
      refine key o fun i e he => ?_
      have : i < ((es.drop l).take (hh - l)).length := (had.1 he).1
      omega
     ·rw [if_neg hMe]
      exact key _ fun _ _ _ => rfl
   ·cases h
  ·rename_i el id sz idx len cap hu
   simp only [haa] at h
   obtain ⟨sz',hsz,h⟩ := h
   split at h
   ·cases h
   ·rename_i hzz
    have hzz' : sz' = sz := by simpa using hzz
    subst hzz'
    simp only [haa] at h
    obtain ⟨hh,e1,l,e2,m,e3,h⟩ := h
    split at h
    ·rename_i hle
     obtain ⟨h1,h2,h3⟩ := hle
     cases h
     obtain ⟨r,b,o,k,hr,hrs,rfl,hab,hlk,hk,hkn,hph,hinn⟩ := hx.lsl_inv
     have hgd : cap.getD len ≤ k := by
      cases hc : cap with
      | none => simpa using hlk
      | some j => have := (hk j hc).1; simp; omega
     have hb := w9 (P := P) (isSl := true) (len := len) (cap := k) hlo hhi hmx e1 e2 e3 (fun hn => ⟨hgd,by subst hn; simp [xi] at e3; exact e3.symm⟩) (fun _ => by omega) hg h1 h2
     let M := if mx.isSome = true then m else k
     have hMl : hh ≤ M := by
      show hh ≤ if mx.isSome = true then m else k
      split <;> omega
     have hMk : M ≤ k := by
      show (if mx.isSome = true then m else k) ≤ k
      split <;> omega
     refine ⟨.slice (some (if M = l then ⟨b,o,none⟩ else ⟨b,o + l * sz',none⟩)) (hh - l) (M - l),?_,?_⟩
     ·show (Instr.sliceAt t (.slice (some ⟨b,o,none⟩) len k) clo chi cmx).run P w = _
      simp only [Instr.sliceAt,Sem.run_bind,run_underlying hu,Result.andThen_ok,Instr.slice,hb,xm hsz,Sem.run_pure,Option.map_some,wm]
      congr 1
      show Value.slice (if M = l then _ else _) (hh - l) (M - l) = _
      split <;> rfl
     ·have hmul : (idx + l) * r.sz = idx * r.sz + l * r.sz := Nat.add_mul _ _ _
      have hbig : (idx + l + (M - l)) * r.sz ≤ (idx + k) * r.sz := ha2 _ (by omega)
      have hv : VR ρ F w (.lsl id r.sz (idx + l) (hh - l) (if mx.isSome = true then some (m - l) else cap.map (· - l))) (.slice (some ⟨b,if M = l then o else o + l * r.sz,none⟩) (hh - l) (M - l)) := by
       refine .lsl id (idx + l) (hh - l) _ r b _ (M - l) hr (fun hne => ?_) (by omega) (fun j hj => ?_) (fun hn => ?_) (by omega) ?_
       ·obtain ⟨rfl,rfl⟩ := hab (by omega)
        refine ⟨rfl,?_⟩
        rw [if_neg (by omega)]
        omega
       ·split at hj
        ·rename_i hms
         cases hj
         have : M = m := if_pos hms
         refine ⟨by omega,?_⟩
         have : idx + cap.getD len ≤ r.n := by
          cases hc : cap with
          | none => simpa using hinn
          | some j => have := (hk j hc).2; simpa using this
         omega
        ·rename_i hms
         have hMk' : M = k := if_neg hms
         cases hc : cap with
         | none => rw [hc] at hj; cases hj
         | some q =>
           rw [hc] at hj
           simp only [Option.map_some,Option.some.injEq] at hj
           subst hj
           have := hk q hc
           have e4 : m = q := by
            have hmn : mx = none := by cases mx with | none => rfl | some _ => exact absurd rfl hms
            rw [hmn,hc] at e3
            simpa [xi] using e3.symm
           omega
       ·split at hn
        ·cases hn
        ·rename_i hms
         have hMk' : M = k := if_neg hms
         have hc : cap = none := by cases hc : cap with | none => rfl | some q => rw [hc] at hn; cases hn
         have := hkn hc
         omega
       ·have : idx + cap.getD len ≤ r.n := by
         cases hc : cap with
         | none => simpa using hinn
         | some j => have := (hk j hc).2; simpa using this
        omega
      rw [← hrs] at hv
      by_cases hMe : M = l
      ·rw [if_pos hMe] at hv ⊢; exact hv
      ·rw [if_neg hMe] at hv ⊢; exact hv
    ·cases h
  ·rename_i n el cs hu
   simp only [haa] at h
   obtain ⟨sz,hsz,hh,e1,l,e2,m,e3,h⟩ := h
   split at h
   ·rename_i hle
    obtain ⟨h1,h2,h3,h4⟩ := hle
    cases h
    obtain ⟨b,o,rfl,hcell⟩ := hx.pref_inv
    have hb := w9 (P := P) (isSl := false) (len := n) (cap := n) hlo hhi hmx e1 e2 e3 (fun hn => ⟨hah _,by subst hn; simp [xi] at e3; exact e3.symm⟩) (fun _ => h3) hg h1 h2
    let M := if mx.isSome = true then m else n
    have hMl : hh ≤ M := by
     show hh ≤ if mx.isSome = true then m else n
     split <;> omega
    have hMn : M ≤ n := by
     show (if mx.isSome = true then m else n) ≤ n
     split <;> omega
    have hlen : (rowsAt cs sz l (hh - l)).length = hh - l := by simp [rowsAt]
    have hrow : ∀ (i : Nat) (e : List PV),(rowsAt cs sz l (hh - l))[i]? = some e → i < hh - l ∧ e = (cs.drop ((l + i) * sz)).take sz := fun i e he => by
     have hi : i < hh - l := by
      have := (had.1 he).1
      rwa [hlen] at this
     refine ⟨hi,?_⟩
     unfold rowsAt at he
     rw [hav,List.getElem?_range hi] at he
     exact (Option.some.inj he).symm
    have hsz' : ∀ i,i < hh - l → (l + i) * sz + sz ≤ cs.length := fun i hi => by
     have : (l + i + 1) * sz ≤ n * sz := ha2 _ (by omega)
     rw [Nat.add_mul,Nat.one_mul] at this
     omega
    refine ⟨.slice (some (if M = l then ⟨b,o,none⟩ else ⟨b,o + l * sz,none⟩)) (hh - l) (M - l),?_,.pure ?_⟩
    ·show (Instr.sliceAt t (.pointer (some ⟨b,o,none⟩)) clo chi cmx).run P w = _
     simp only [Instr.sliceAt,Instr.sureAddr,Sem.run_bind,run_underlying hu,Result.andThen_ok,hb,xm hsz,Sem.run_pure,wm]
     congr 1
    ·have key : ∀ o' : Nat,(hh - l ≠ 0 → o' = o + l * sz) → VP F w (.psl false (rowsAt cs sz l (hh - l))) (.slice (some ⟨b,o',none⟩) (hh - l) (M - l)) := by
      intro o' ho'
      have := VP.psl' (F := F) (w := w) (full := false) (es := rowsAt cs sz l (hh - l)) (sz := sz) (b := b) (o := o') (c := M - l)
       (fun e he => by
        obtain ⟨i,hi⟩ := hau.1 he
        obtain ⟨g1,rfl⟩ := hrow i e hi
        have := hsz' i g1
        rw [ha7,List.length_drop]
        omega) (by rw [hlen]; omega) (fun hq => by cases hq) (fun i e he j x hx' => ?_)
      ·rwa [hlen] at this
      ·obtain ⟨g1,rfl⟩ := hrow i e he
       obtain rfl := ho' (by omega)
       rw [List.getElem?_take] at hx'
       split at hx'
       ·rw [hbp] at hx'
        obtain ⟨v,q1,q2,q3⟩ := hcell _ x hx'
        have e9 : o + ((l + i) * sz + j) = o + l * sz + i * sz + j := by rw [Nat.add_mul]; omega
        rw [e9] at q1 q2
        exact ⟨v,q1,q2,q3⟩
       ·cases hx'
     by_cases hMe : M = l
     ·rw [if_pos hMe]
      exact key o fun hne => by omega
     ·rw [if_neg hMe]
      exact key _ fun _ => rfl
   ·cases h
  ·cases h
end
end Go.Pvm
namespace Go.Pvm
section
variable {P : Program} {ρ : Where} {F F0 : xx} {w : World} {σ : Store}
theorem VP.agg' {cs : List PV} {us : List Value} (h : VPs F w cs us) : VP F w (.agg cs) (.agg us.toArray) := by
 obtain ⟨vs,h1,h2⟩ := zn9 h.1 h.2
 exact .agg cs us vs h.1 h1 h2
theorem VP.tuple' {cs : List PV} {us : List Value} (h : VPs F w cs us) : VP F w (.tuple cs) (.tuple us.toArray) := by
 obtain ⟨vs,h1,h2⟩ := zn9 h.1 h.2
 exact .tuple cs us vs h.1 h1 h2
theorem VP.func' {f : FuncId} {cs : List PV} {us : List Value} (h : VPs F w cs us) : VP F w (.func f cs) (.func (.func f) #[] us.toArray) := by
 obtain ⟨vs,h1,h2⟩ := zn9 h.1 h.2
 exact .func f cs us vs h.1 h1 h2
theorem uh {g : PV → PV} {cs : List PV} {us : List Value} {R : PV → Value → Prop} (hl : us.length = cs.length) (h : ∀ (i : Nat) (c : PV) (u : Value),cs[i]? = some c → us[i]? = some u → R c u) (hg : ∀ c u,c ∈ cs → R c u → VP F w (g c) u) : VPs F w (cs.map g) us :=
 ⟨by simpa using hl,fun i c u e e' => by
  rw [hav,hac] at e
  obtain ⟨c0,e0,rfl⟩ := e
  exact hg _ _ (haj e0) (h i c0 u e0 e')⟩
theorem zsw (σ : Store) : ∀ (n : Nat) (v : PV) (c : Value),VP F w v c → VP F w (fz n σ v) c
 | 0,v,c,_ => .undef _
 | n + 1,v,c,h => by
   cases h with
   | undef v => exact .undef _
   | bool b => exact .bool b
   | int k m => exact .int k m
   | float k m => exact .float k m
   | str s => exact .str s
   | nilptr => exact .nilptr
   | pref cs b o vs h1 h2 => exact .pref cs b o vs h1 h2
   | nilsl => exact .nilsl
   | psl full es sz b o sp c vs hsp hs hc hf h1 h2 => exact .psl full es sz b o sp c vs hsp hs hc hf h1 h2
   | nilmap => exact .nilmap
   | nilfunc => exact .nilfunc
   | niliface => exact .niliface
   | func f cs us vs hl h1 h2 => exact .func' (uh (R := VP F w) hl (fun i c u e e' => by have := h1 i c e; rw [e'] at this; cases this; exact h2 i c e) fun c u _ hh => zsw σ n c u hh)
   | agg cs us vs hl h1 h2 => exact .agg' (uh (R := VP F w) hl (fun i c u e e' => by have := h1 i c e; rw [e'] at this; cases this; exact h2 i c e) fun c u _ hh => zsw σ n c u hh)
   | tuple cs us vs hl h1 h2 => exact .tuple' (uh (R := VP F w) hl (fun i c u e e' => by have := h1 i c e; rw [e'] at this; cases this; exact h2 i c e) fun c u _ hh => zsw σ n c u hh)
theorem zb4 {cs : List PV} {c : PV} (h : c ∈ cs) {id : Nat} (hid : id ∈ tops c) : id ∈ tops.topss cs := by
 induction cs with
 | nil => cases h
 | cons v r ih =>
   simp only [tops.topss,hbn]
   cases h with
   | head => exact .inl hid
   | tail _ h => exact .inr (ih h)
theorem zfy (hs : SR ρ F σ w) (hF : ∀ b o,F b o → F0 b o) {Good : Nat → Prop}
  (hg : ∀ id r ro es,Good id → ρ id = some r → σ.objs id = some (.cells ro es) → (∀ (i : Nat) (e : List PV),es[i]? = some e → ∀ (j : Nat) (x : PV),e[j]? = some x → F0 r.block (r.sh + i * r.sz + j)) ∧ ∀ e ∈ es,∀ x ∈ e,∀ id' ∈ tops x,Good id') :
  ∀ (n : Nat) (v : PV) (c : Value),VR ρ F w v c → (∀ id ∈ tops v,Good id) → VP F0 w (fz n σ v) c
 | 0,v,c,_,_ => .undef _
 | n + 1,v,c,h,ht => by
   have cellOf : ∀ {id : Nat} {r : Rec} {ro : Nat} {es : List (List PV)},Good id → ρ id = some r → σ.objs id = some (.cells ro es) → ∀ (i : Nat) (e : List PV),es[i]? = some e → ∀ (j : Nat) (x : PV),e[j]? = some x →
     ∃ u,F0 r.block (r.sh + i * r.sz + j) ∧ w.cell? ⟨r.block,r.sh + i * r.sz + j,none⟩ = some u ∧ VP F0 w (fz n σ x) u := by
    intro id r ro es hG hr ho i e he j x hx
    obtain ⟨g1,g2⟩ := hg id r ro es hG hr ho
    obtain ⟨u,q1,q2⟩ := (hs.obj id r _ hr ho).elem he j x hx
    exact ⟨u,g1 i e he j x hx,q1,zfy hs hF hg n x u q2 (g2 e (haj he) x (haj hx))⟩
   cases h with
   | pure h => exact zsw σ (n + 1) v c (h.mono hF fun _ _ _ => rfl)
   | mref id r hr => exact .undef _
   | ref id idx off r hr =>
     show VP F0 w (match σ.objs id with | some (.cells _ es) => (match es[idx]? with | some e => .pref ((e.drop off).map (fz n σ)) | none => .undef) | _ => .undef) _
     split
     ·rename_i ro es ho
      split
      ·rename_i e he
       refine .pref' fun i x hx => ?_
       rw [hav,hac] at hx
       obtain ⟨y,hy,rfl⟩ := hx
       rw [hbp] at hy
       obtain ⟨u,q1,q2,q3⟩ := cellOf (ht id (by simp [tops])) hr ho idx e he (off + i) y hy
       rw [← Nat.add_assoc] at q1 q2
       exact ⟨u,q1,q2,q3⟩
      ·exact .undef _
     ·exact .undef _
   | lsl id idx len cap r b o c hr ha hl hk hn hp hi =>
     show VP F0 w (match σ.objs id with | some (.cells _ es) => (if idx + len ≤ es.length then .psl (cap == some len) (((es.drop idx).take len).map fun e => e.map (fz n σ)) else .undef) | _ => .undef) _
     split
     ·rename_i ro es ho
      split
      ·rename_i hle
       obtain ⟨arr,ty,hb,hp',hnn,hes,hfit,hrn,hz0,hFF,hc⟩ := (hs.obj id r _ hr ho).cells_inv
       have hlen : (((es.drop idx).take len).map fun e => e.map (fz n σ)).length = len := by simp; omega
       have := VP.psl' (F := F0) (w := w) (full := cap == some len) (es := ((es.drop idx).take len).map fun e => e.map (fz n σ)) (sz := r.sz) (b := b) (o := o) (c := c)
        (fun e he => by
         obtain ⟨e0,he0,rfl⟩ := List.mem_map.1 he
         rw [han]
         exact hes e0 (hbu (hbr he0)))
        (by rw [hlen]; exact hl) (fun hq => by rw [hlen]; exact (hk len (by simpa using hq)).1)
        (fun i e he j x hx => by
         rw [hav,hac] at he
         obtain ⟨e0,he0,rfl⟩ := he
         rw [hav,hac] at hx
         obtain ⟨y,hy,rfl⟩ := hx
         have hil : i < len := by
          have := (had.1 he0).1
          simp at this; omega
         rw [List.getElem?_take,if_pos hil,hbp] at he0
         obtain ⟨rfl,rfl⟩ := ha (by omega)
         obtain ⟨u,q1,q2,q3⟩ := cellOf (ht id (by simp [tops])) hr ho _ e0 he0 j y hy
         rw [Nat.add_mul,← Nat.add_assoc] at q1 q2
         exact ⟨u,q1,q2,q3⟩)
       rwa [hlen] at this
      ·exact .undef _
     ·exact .undef _
   | func f cs us vs hl h1 h2 => exact .func' (uh (R := VR ρ F w) hl (fun i c u e e' => by have := h1 i c e; rw [e'] at this; cases this; exact h2 i c e) fun c u hm hh => zfy hs hF hg n c u hh fun id hid => ht id (by simp only [tops]; exact zb4 hm hid))
   | agg cs us vs hl h1 h2 => exact .agg' (uh (R := VR ρ F w) hl (fun i c u e e' => by have := h1 i c e; rw [e'] at this; cases this; exact h2 i c e) fun c u hm hh => zfy hs hF hg n c u hh fun id hid => ht id (by simp only [tops]; exact zb4 hm hid))
   | tuple cs us vs hl h1 h2 => exact .tuple' (uh (R := VR ρ F w) hl (fun i c u e e' => by have := h1 i c e; rw [e'] at this; cases this; exact h2 i c e) fun c u hm hh => zfy hs hF hg n c u hh fun id hid => ht id (by simp only [tops]; exact zb4 hm hid))
mutual
theorem zj5 : ∀ (v : PV),v.lf = true → tops v = []
 | .ref ..,h => by simp [PV.lf] at h
 | .lsl ..,h => by simp [PV.lf] at h
 | .mref _,h => by simp [PV.lf] at h
 | .agg cs,h => by simp only [tops]; exact topss_lf cs (by simpa [PV.lf] using h)
 | .tuple cs,h => by simp only [tops]; exact topss_lf cs (by simpa [PV.lf] using h)
 | .func f cs,h => by simp only [tops]; exact topss_lf cs (by simpa [PV.lf] using h)
 | .undef,_ | .bool _,_ | .int ..,_ | .float ..,_ | .str _,_ | .nilptr,_ | .pref _,_ | .nilsl,_ | .psl ..,_ | .nilmap,_ | .nilfunc,_ | .niliface,_ => by simp [tops]
theorem topss_lf : ∀ (cs : List PV),PV.lf.lfs cs = true → tops.topss cs = []
 | [],_ => rfl
 | v :: r,h => by
   simp only [PV.lf.lfs,haq] at h
   simp [tops.topss,zj5 v h.1,topss_lf r h.2]
end
def zbf (P : Program) (C : z7) : Prop := ∀ f args σ v σ',C f args σ = some (v,σ') → ∀ (ρ : Where) (F : xx) (w : World) (us : List Value),SR ρ F σ w → VRs ρ F w args us → (∀ id,σ.next ≤ id → id < σ'.next → ρ id = none) →
 Calls P f us.toArray w fun e w' => ∃ vc ρ' F',e = .returned vc ∧ Go1 ρ F σ w ρ' F' σ' w' ∧ SR ρ' F' σ' w' ∧ VR ρ' F' w' v vc
theorem Lv.empty (b : Nat) {n : Nat} : ¬ Lv (fun _ => none) (Store.at_ n) b := fun ⟨_,_,_,h,_⟩ => by cases h
theorem SR.empty {F : xx} (h : ∀ b o,F b o → b < w.heap.size) (n : Nat) : SR (fun _ => none) F (Store.at_ n) w :=
 ⟨fun _ _ _ h => absurd h (by simp),fun _ _ _ _ _ _ h => absurd h (by simp),h,fun _ _ => rfl⟩
theorem zbu (hs : SR ρ F σ w) {b : Nat} (h : Lv ρ σ b) : b < w.heap.size := by
 obtain ⟨id,r,o,h1,h2,rfl⟩ := h
 exact (hs.obj id r o h1 h2).in_
structure Grew (w w' : World) : Prop where
 size : w.heap.size ≤ w'.heap.size
 blk : ∀ b,b < w.heap.size → w'.heap[b]? = w.heap[b]?
 os : w'.os = w.os
 tape : w'.tape = w.tape
 out : w'.output = w.output
theorem Go1.grew {F' : xx} {ρ' : Where} {τ : Store} {w' : World} {n : Nat} (h : Go1 (fun _ => none) F (Store.at_ n) w ρ' F' τ w') : Grew w w' :=
 ⟨h.size,fun b hb => h.frame b hb (Lv.empty b),h.os,h.tape,h.out⟩
theorem Grew.cell {w' : World} (h : Grew w w') (b o : Nat) (hb : b < w.heap.size) : w'.cell? ⟨b,o,none⟩ = w.cell? ⟨b,o,none⟩ := by simp [World.cell?,h.blk b hb]
theorem SR.grew {w' : World} {F' : xx} {σ' : Store} (hs : SR ρ F σ w) (hg : Grew w w') (hF : ∀ b o,F b o → F' b o) (hlt : ∀ b o,F' b o → b < w'.heap.size)
  (hnx : σ'.next = σ.next) (hobj : ∀ id,σ'.objs id = σ.objs id ∨ ∃ ro es,σ.objs id = some (.cells ro es) ∧ σ'.objs id = some (.cells es.length es))
  (hfree : ∀ id r ro es,ρ id = some r → σ'.objs id = some (.cells ro es) → ∀ o,r.sh + ro * r.sz ≤ o → F' r.block o → F r.block o)
  (hM : ∀ id r ob,ρ id = some r → σ'.objs id = some ob → (∀ ro es,ob ≠ .cells ro es) → ∀ o,F' r.block o → F r.block o) : SR ρ F' σ' w' := by
 have sub : ∀ id o,σ'.objs id = some o → ∃ o',σ.objs id = some o' := fun id o e => by
  rcases hobj id with h | ⟨ro,es,h,_⟩
  ·exact ⟨o,by rw [← h]; exact e⟩
  ·exact ⟨_,h⟩
 have mono : ∀ {v : PV} {c : Value},VR ρ F w v c → VR ρ F' w' v c := fun h => h.mono (fun _ _ e => e) hF (fun b o e => hg.cell b o (hs.old b o e))
 refine ⟨fun id r o hr ho => ?_,fun i j r r' o o' a b c d hne => ?_,hlt,fun id hid => ?_⟩
 ·have build : ∀ ro0 ro es,σ.objs id = some (.cells ro0 es) → σ'.objs id = some (.cells ro es) → (ro = ro0 ∨ ro = es.length) → OR ρ F' w' r (.cells ro es) := by
   intro ro0 ro es e1 e2 hro'
   obtain ⟨arr,ty,hb,hp,hn,hsz,hfit,hrn,hz0,hFF,hc⟩ := (hs.obj id r _ hr e1).cells_inv
   have hle : r.sh + ro0 * r.sz ≤ r.sh + ro * r.sz := by
    rcases hro' with rfl | rfl
    ·exact hah _
    ·have := ha2 r.sz (show ro0 ≤ es.length by omega); omega
   refine .cells ro es arr ty (by rw [hg.blk _ (hbg.1 hb).1]; exact hb) hp hn hsz hfit (by rcases hro' with rfl | rfl <;> omega) hz0 (fun o ho hF' => ?_) fun i e he j x hx => ?_
   ·exact hFF o (by omega) (hfree id r ro es hr e2 o ho hF')
   ·obtain ⟨v,q1,q2⟩ := hc i e he j x hx
    exact ⟨v,q1,mono q2⟩
  rcases hobj id with h | ⟨ro,es,h1,h2⟩
  ·rw [ho] at h
   cases o with
   | cells ro es => exact build ro ro es h.symm ho (.inl rfl)
   | map kvs =>
     have hb := hs.obj id r _ hr h.symm
     exact hb.alike (hg.blk _ hb.in_) mono (hM id r _ hr ho fun _ _ e => by cases e)
   | mbox q =>
     have hb := hs.obj id r _ hr h.symm
     exact hb.alike (hg.blk _ hb.in_) mono (hM id r _ hr ho fun _ _ e => by cases e)
  ·rw [h2] at ho
   cases ho
   exact build ro _ es h1 h2 (.inr rfl)
 ·obtain ⟨o1,h1⟩ := sub _ _ b
  obtain ⟨o2,h2⟩ := sub _ _ d
  exact hs.apart i j r r' o1 o2 a h1 c h2 hne
 ·rcases hobj id with h | ⟨ro,es,h1,h2⟩
  ·rw [h]; exact hs.new id (by omega)
  ·have := hs.new id (by omega)
   rw [h1] at this
   cases this
theorem Go1.of_grew {w' : World} {F' : xx} {σ' : Store} (hs : SR ρ F σ w) (hg : Grew w w') (hF : ∀ b o,F b o → F' b o) (hN : ∀ b o,F' b o → F b o ∨ w.heap.size ≤ b ∨ Lv ρ σ b) (hnx : σ'.next = σ.next)
  (hsub : ∀ id o,σ'.objs id = some o → ∃ o',σ.objs id = some o') : Go1 ρ F σ w ρ F' σ' w' :=
 ⟨fun _ _ h => h,fun _ _ h h' => absurd (h.symm.trans h') (by simp),by rw [hnx]; exact hah _,hF,fun b o e => hg.cell b o (hs.old b o e),hg.size,fun b hb _ => hg.blk b hb,hN,
  fun b ⟨id,r,o,h1,h2,h3⟩ => let ⟨o',h4⟩ := hsub id o h2; .inr ⟨id,r,o',h1,h4,h3⟩,hg.os,hg.tape,hg.out⟩
theorem vg : ∀ (ids : List Nat) (σ σ' : Store),ke ids σ = some σ' → σ'.next = σ.next ∧ (∀ id ∈ ids,∃ ro es,σ.objs id = some (.cells ro es) ∧ (∀ e ∈ es,PV.lf.lfs e = true) ∧ σ'.objs id = some (.cells es.length es)) ∧ ∀ id,id ∉ ids → σ'.objs id = σ.objs id
 | [],σ,σ',h => by simp [ke] at h; subst h; exact ⟨rfl,fun id h => absurd h (by simp),fun _ _ => rfl⟩
 | a :: ids,σ,σ',h => by
   unfold ke at h
   split at h
   ·rename_i ro es ho
    split at h
    ·rename_i hall
     obtain ⟨h1,h2,h3⟩ := vg ids _ σ' h
     have hlf : ∀ e ∈ es,PV.lf.lfs e = true := by simpa [har] using hall
     refine ⟨h1,fun id hid => ?_,fun id hid => ?_⟩
     ·by_cases hm : id ∈ ids
      ·obtain ⟨ro',es',q1,q2,q3⟩ := h2 id hm
       by_cases hia : id = a
       ·subst hia
        simp [Store.put] at q1
        obtain ⟨rfl,rfl⟩ := q1
        exact ⟨ro,es,ho,hlf,q3⟩
       ·simp [Store.put,hia] at q1
        exact ⟨ro',es',q1,q2,q3⟩
      ·obtain rfl : id = a := by
        cases hid with
        | head => rfl
        | tail _ h => exact absurd h hm
       have := h3 id hm
       exact ⟨ro,es,ho,hlf,by rw [this]; simp [Store.put]⟩
     ·have := h3 id (fun h => hid (.tail _ h))
      rw [this]
      have hne : id ≠ a := fun e => hid (by subst e; exact .head _)
      simp [Store.put,hne]
    ·cases h
   ·cases h
theorem uf {cs : List PV} (h : PV.own.owns cs = true) : ∀ c ∈ cs,c.own = true := by
 induction cs with
 | nil => intro c hc; cases hc
 | cons v r ih =>
   simp only [PV.own.owns,haq] at h
   intro c hc
   cases hc with
   | head => exact h.1
   | tail _ hc => exact ih h.2 c hc
theorem VP.own {F F' : xx} {w : World} {v : PV} {c : Value} (h : VP F w v c) : v.own = true → VP F' w v c := by
 induction h with
 | undef v => exact fun _ => .undef v
 | bool b => exact fun _ => .bool b
 | int k n => exact fun _ => .int k n
 | float k n => exact fun _ => .float k n
 | str s => exact fun _ => .str s
 | nilptr => exact fun _ => .nilptr
 | nilsl => exact fun _ => .nilsl
 | nilmap => exact fun _ => .nilmap
 | nilfunc => exact fun _ => .nilfunc
 | niliface => exact fun _ => .niliface
 | agg cs us vs hl h1 h2 ih => intro k; exact .agg cs us vs hl h1 fun i c e => ih i c e (uf (by simpa [PV.own] using k) c (haj e))
 | tuple cs us vs hl h1 h2 ih => intro k; exact .tuple cs us vs hl h1 fun i c e => ih i c e (uf (by simpa [PV.own] using k) c (haj e))
 | func f cs us vs hl h1 h2 ih => intro k; exact .func f cs us vs hl h1 fun i c e => ih i c e (uf (by simpa [PV.own] using k) c (haj e))
 | pref cs b o vs h1 h2 ih => intro k; simp [PV.own] at k
 | psl full es sz b o sp c vs hsp hs hc' hf h1 h2 ih =>
   intro k
   simp only [PV.own,List.isEmpty_iff] at k
   subst k
   exact .psl full [] sz b o sp c vs hsp hs hc' hf (fun i e he => by simp at he) (fun i e he => by simp at he)
theorem VR.own {ρ : Where} {F F' : xx} {w : World} {v : PV} {c : Value} (h : VR ρ F w v c) : v.own = true → VR ρ F' w v c := by
 induction h with
 | pure h => exact fun k => .pure (h.own k)
 | ref id idx off r h => exact fun _ => .ref id idx off r h
 | lsl id idx len cap r b o c h ha hl hk hn hp hi => exact fun _ => .lsl id idx len cap r b o c h ha hl hk hn hp hi
 | mref id r h => exact fun _ => .mref id r h
 | func f cs us vs hl h1 h2 ih => intro k; exact .func f cs us vs hl h1 fun i c e => ih i c e (uf (by simpa [PV.own] using k) c (haj e))
 | agg cs us vs hl h1 h2 ih => intro k; exact .agg cs us vs hl h1 fun i c e => ih i c e (uf (by simpa [PV.own] using k) c (haj e))
 | tuple cs us vs hl h1 h2 ih => intro k; exact .tuple cs us vs hl h1 fun i c e => ih i c e (uf (by simpa [PV.own] using k) c (haj e))
theorem zkp {τ : Store} {a : Nat} (h : qu τ a = true) {id : Nat} (hid : a ≤ id) {ro : Nat} {es : List (List PV)} (ho : τ.objs id = some (.cells ro es)) (hlt : id < τ.next) : ∀ e ∈ es,∀ x ∈ e,x.own = true := by
 have := (har.1 h) (id - a) (by simp; omega)
 rw [show a + (id - a) = id by omega,ho] at this
 intro e he
 exact uf ((har.1 this) e he)
theorem zko {τ : Store} {a : Nat} (h : qu τ a = true) {id : Nat} (hid : a ≤ id) (hlt : id < τ.next) {kvs : List (PV × PV)} (ho : τ.objs id = some (.map kvs)) : False := by
 have := (har.1 h) (id - a) (by simp; omega)
 rw [show a + (id - a) = id by omega,ho] at this
 cases this
theorem zit {τ : Store} {a : Nat} (h : qu τ a = true) {id : Nat} (hid : a ≤ id) (hlt : id < τ.next) {q : Nat} (ho : τ.objs id = some (.mbox q)) : False := by
 have := (har.1 h) (id - a) (by simp; omega)
 rw [show a + (id - a) = id by omega,ho] at this
 cases this
theorem zlc {cfg : Cfg} {C : z7} (hC : zbf cfg.P C) {f : FuncId} {args : List PV} {v : PV} {σ' : Store} (h : qq cfg C f args σ = some (v,σ')) (hs : SR ρ F σ w) {us : List Value} (hu : VRs ρ F w args us)
  (hn : ∀ id,σ.next ≤ id → id < σ'.next → ρ id = none) :
  Calls cfg.P f us.toArray w fun e w' => ∃ vc ρ' F',e = .returned vc ∧ Go1 ρ F σ w ρ' F' σ' w' ∧ SR ρ' F' σ' w' ∧ VR ρ' F' w' v vc := by
 unfold qq at h
 split at h
 ·exact hC f args σ v σ' h ρ F w us hs hu hn
 ·simp only [haa] at h
  obtain ⟨⟨v0,τ⟩,hc,h⟩ := h
  simp only at h
  split at h
  ·-- the answer names no memory
   rename_i hsc
   cases h
   let F0 : xx := fun b o => F b o ∨ Lv ρ σ b
   have hargs : VPs F0 w (args.map (fz zp σ)) us := uh (R := VR ρ F w) hu.1 hu.2 fun c u _ hh => zfy (Good := fun _ => True) hs (fun b o e => .inl e)
    (fun id r ro es _ hr ho => ⟨fun i e he j x hx => .inr ⟨id,r,_,hr,ho,rfl⟩,fun _ _ _ _ _ _ => trivial⟩) zp c u hh fun _ _ => trivial
   have hold0 : ∀ b o,F0 b o → b < w.heap.size := fun b o e => by
    rcases e with e | e
    ·exact hs.old b o e
    ·exact zbu hs e
   refine (hC f _ _ v0 τ hc (fun _ => none) F0 w us (SR.empty hold0 0) ⟨hargs.1,fun i c u e e' => .pure (hargs.2 i c u e e')⟩ fun _ _ _ => rfl).mono fun e w' ⟨vc,ρ',F',he,g,s,hv⟩ => ?_
   have hgr := g.grew
   let F2 : xx := fun b o => F' b o ∨ Lv ρ' τ b
   have hv2 : VP F2 w' (fz zp τ v0) vc := zfy (Good := fun _ => True) s (fun b o e => .inl e)
    (fun id r ro es _ hr ho => ⟨fun i e he j x hx => .inr ⟨id,r,_,hr,ho,rfl⟩,fun _ _ _ _ _ _ => trivial⟩) zp v0 vc hv fun _ _ => trivial
   exact ⟨vc,ρ,F,he,Go1.of_grew hs hgr (fun _ _ e => e) (fun _ _ e => .inl e) rfl (fun _ o e => ⟨o,e⟩),hs.grew hgr (fun _ _ e => e) (fun b o e => hao (hs.old b o e) hgr.size) rfl (fun _ => .inl rfl) (fun _ _ _ _ _ _ _ _ e => e) (fun _ _ _ _ _ _ _ e => e),.pure (hv2.scalar hsc)⟩
  ·-- the answer may stand in what was handed over: that is closed
   have hex : ∃ σ1,ke (tops.topss args) σ = some σ1 ∧ (fz zp τ v0,σ1) = (v,σ') := by
    split at h
    ·split at h
     ·rename_i hlf
      cases h
      exact ⟨σ,by rw [topss_lf args hlf]; rfl,rfl⟩
     ·cases h
    ·rw [hac] at h
     exact h
   obtain ⟨σ1,hro,heq⟩ := hex
   clear h
   cases heq
   obtain ⟨r1,r2,r3⟩ := vg _ _ _ hro
   let F0 : xx := fun b o => F b o ∨ ∃ id r ro es,id ∈ tops.topss args ∧ ρ id = some r ∧ σ.objs id = some (.cells ro es) ∧ r.block = b ∧ o < r.sh + r.n * r.sz
   have hargs : VPs F0 w (args.map (fz zp σ)) us := uh (R := VR ρ F w) hu.1 hu.2 fun c u hm hh => zfy (Good := fun id => id ∈ tops.topss args) hs (fun b o e => .inl e)
    (fun id r ro es hid hr ho => by
     obtain ⟨arr,ty,hb,hp,hnn,hsz,hfit,hrn,hz0,hFF,hcc⟩ := (hs.obj id r _ hr ho).cells_inv
     refine ⟨fun i e he j x hx => .inr ⟨id,r,ro,es,hid,hr,ho,rfl,?_⟩,fun e he x hx id' hid' => ?_⟩
     ·have hi : i < r.n := by rw [← hnn]; exact (had.1 he).1
      have hj : j < r.sz := by rw [← hsz e (haj he)]; exact (had.1 hx).1
      have := wz hi hj
      omega
     ·obtain ⟨ro',es',q1,q2,_⟩ := r2 id hid
      rw [ho] at q1
      cases q1
      have : x.lf = true := by
       obtain ⟨k,hk⟩ := hau.1 hx
       exact zqm (q2 e he) k x hk
      rw [zj5 x this] at hid'
      cases hid') zp c u hh fun id hid => zb4 hm hid
   have hold0 : ∀ b o,F0 b o → b < w.heap.size := fun b o e => by
    rcases e with e | ⟨id,r,ro,es,_,hr,ho,rfl,_⟩
    ·exact hs.old b o e
    ·exact zbu hs ⟨id,r,_,hr,ho,rfl⟩
   refine (hC f _ _ v0 τ hc (fun _ => none) F0 w us (SR.empty hold0 0) ⟨hargs.1,fun i c u e e' => .pure (hargs.2 i c u e e')⟩ fun _ _ _ => rfl).mono fun e w' ⟨vc,ρ',F',he,g,s,hv⟩ => ?_
   have hgr := g.grew
   let F2 : xx := fun b o => F' b o ∨ Lv ρ' τ b
   have hv2 : VP F2 w' (fz zp τ v0) vc := zfy (Good := fun _ => True) s (fun b o e => .inl e)
    (fun id r ro es _ hr ho => ⟨fun i e he j x hx => .inr ⟨id,r,_,hr,ho,rfl⟩,fun _ _ _ _ _ _ => trivial⟩) zp v0 vc hv fun _ _ => trivial
   have hnew : ∀ b o,F2 b o → F0 b o ∨ w.heap.size ≤ b := fun b o e => by
    rcases e with e | e
    ·rcases g.froN b o e with e | e | e
     ·exact .inl e
     ·exact .inr e
     ·exact absurd e (Lv.empty b)
    ·rcases g.live b e with e | e
     ·exact .inr e
     ·exact absurd e (Lv.empty b)
   have hF2 : ∀ b o,F b o → F2 b o := fun b o e => .inl (g.fro b o (.inl e))
   have hobj : ∀ id,σ'.objs id = σ.objs id ∨ ∃ ro es,σ.objs id = some (.cells ro es) ∧ σ'.objs id = some (.cells es.length es) := fun id => by
    by_cases hid : id ∈ tops.topss args
    ·obtain ⟨ro,es,q1,_,q3⟩ := r2 id hid
     exact .inr ⟨ro,es,q1,q3⟩
    ·exact .inl (r3 id hid)
   have hsub : ∀ id o,σ'.objs id = some o → ∃ o',σ.objs id = some o' := fun id o e => by
    rcases hobj id with h | ⟨ro,es,h,_⟩
    ·exact ⟨o,by rw [← h]; exact e⟩
    ·exact ⟨_,h⟩
   refine ⟨vc,ρ,F2,he,Go1.of_grew hs hgr hF2 (fun b o e => ?_) r1 hsub,hs.grew hgr hF2 (fun b o e => ?_) r1 hobj (fun id r ro es hr ho o hle e => ?_) (fun id r kvs hr ho hno o e => ?_),.pure hv2⟩
   ·rcases hnew b o e with (e | ⟨id,r,ro,es,_,hr,ho,rfl,_⟩) | e
    ·exact .inl e
    ·exact .inr (.inr ⟨id,r,_,hr,ho,rfl⟩)
    ·exact .inr (.inl e)
   ·rcases e with e | e
    ·exact s.old b o e
    ·exact zbu s e
   ·rcases hnew _ o e with (e | ⟨id',r',ro',es',hid',hr',ho',hblk,hlt⟩) | e
    ·exact e
    ·exfalso
     by_cases hne : id' = id
     ·subst hne
      rw [hr] at hr'
      cases hr'
      obtain ⟨ro2,es2,q1,_,q3⟩ := r2 id' hid'
      rw [ho] at q3
      cases q3
      obtain ⟨arr,ty,hb,hp,hnn,_⟩ := (hs.obj id' r _ hr q1).cells_inv
      rw [hnn] at hle
      omega
     ·obtain ⟨o2,h2⟩ := hsub _ _ ho
      exact hs.apart id' id r' r _ o2 hr' ho' hr h2 hne hblk
    ·obtain ⟨o2,h2⟩ := hsub _ _ ho
     have := zbu hs ⟨id,r,o2,hr,h2,rfl⟩
     omega
   ·rcases hnew _ o e with (e | ⟨id',r',ro',es',hid',hr',ho',hblk,hlt⟩) | e
    ·exact e
    ·exfalso
     have hid : σ.objs id = some kvs := by
      rcases hobj id with q | ⟨_,_,_,q⟩
      ·rw [← q]; exact ho
      ·rw [ho] at q; cases q; exact absurd rfl (hno _ _)
     refine hs.apart id' id r' r _ _ hr' ho' hr hid (fun e => ?_) hblk
     rw [e,hid] at ho'
     cases ho'
     exact hno _ _ rfl
    ·obtain ⟨o2,h2⟩ := hsub _ _ ho
     have := zbu hs ⟨id,r,o2,hr,h2,rfl⟩
     omega
 ·simp only [haa] at h
  obtain ⟨⟨v0,τ⟩,hc,h⟩ := h
  simp only at h
  split at h
  ·rename_i hown
   rw [haq] at hown
   obtain ⟨hov,hoo⟩ := hown
   cases h
   have hnx0 : ∀ id,σ.next ≤ id → id < τ.next → ρ id = none := hn
   let F0 : xx := fun b o => F b o ∨ Lv ρ σ b
   have hargs : VPs F0 w (args.map (fz zp σ)) us := uh (R := VR ρ F w) hu.1 hu.2 fun c u _ hh => zfy (Good := fun _ => True) hs (fun b o e => .inl e)
    (fun id r ro es _ hr ho => ⟨fun i e he j x hx => .inr ⟨id,r,_,hr,ho,rfl⟩,fun _ _ _ _ _ _ => trivial⟩) zp c u hh fun _ _ => trivial
   have hold0 : ∀ b o,F0 b o → b < w.heap.size := fun b o e => by
    rcases e with e | e
    ·exact hs.old b o e
    ·exact zbu hs e
   refine (hC f _ _ v τ hc (fun _ => none) F0 w us (SR.empty hold0 σ.next) ⟨hargs.1,fun i c u e e' => .pure (hargs.2 i c u e e')⟩ fun _ _ _ => rfl).mono fun e w' ⟨vc,ρ',F',he,g,s,hv⟩ => ?_
   have hgr := g.grew
   have hnx : σ.next ≤ τ.next := g.nx
   let ρ2 : Where := fun id => match ρ id with | some r => some r | none => ρ' id
   have h1 : ∀ id r,ρ id = some r → ρ2 id = some r := fun id r e => by simp [ρ2,e]
   have h2 : ∀ id r,ρ' id = some r → ρ2 id = some r := fun id r e => by
    have := g.rng id r e rfl
    simp only [Store.at_] at this
    simp [ρ2,hnx0 id this.1 this.2,e]
   have h3 : ∀ id r,ρ2 id = some r → ρ id = some r ∨ (ρ id = none ∧ ρ' id = some r) := fun id r e => by
    cases hq : ρ id with
    | none => simp [ρ2,hq] at e; exact .inr ⟨rfl,e⟩
    | some r' => simp [ρ2,hq] at e; exact .inl (by rw [e])
   have hL : ∀ b,Lv ρ' τ b → w.heap.size ≤ b := fun b e => by
    rcases g.live b e with e | e
    ·exact e
    ·exact absurd e (Lv.empty b)
   have objs : ∀ id r o,ρ2 id = some r → (σ.join τ).objs id = some o → (id < σ.next ∧ ρ id = some r ∧ σ.objs id = some o) ∨ (σ.next ≤ id ∧ ρ' id = some r ∧ τ.objs id = some o) := fun id r o e e2 => by
    simp only [Store.join] at e2
    by_cases hlt : id < σ.next
    ·rw [if_pos hlt] at e2
     rcases h3 id r e with h | ⟨_,h⟩
     ·exact .inl ⟨hlt,h,e2⟩
     ·have := (g.rng id r h rfl).1
      simp only [Store.at_] at this
      omega
    ·rw [if_neg hlt] at e2
     rcases h3 id r e with h | ⟨_,h⟩
     ·exfalso
      rcases ha4 id τ.next with hq | hq
      ·rw [hnx0 id (by omega) hq] at h; cases h
      ·rw [s.new id hq] at e2; cases e2
     ·exact .inr ⟨by omega,h,e2⟩
   have m1 : ∀ {x : PV} {c : Value},VR ρ F w x c → VR ρ2 F w' x c := fun h => h.mono h1 (fun _ _ e => e) (fun b o e => hgr.cell b o (hs.old b o e))
   have m2 : ∀ {x : PV} {c : Value},VR ρ' F' w' x c → x.own = true → VR ρ2 F w' x c := fun h ho => (h.own (F' := F) ho).mono h2 (fun _ _ e => e) (fun _ _ _ => rfl)
   refine ⟨vc,ρ2,F,he,⟨h1,fun id r e e0 => ?_,hnx,fun _ _ e => e,fun b o e => hgr.cell b o (hs.old b o e),hgr.size,fun b hb _ => hgr.blk b hb,fun b o e => .inl e,fun b hb => ?_,hgr.os,hgr.tape,hgr.out⟩,⟨fun id r o e e2 => ?_,fun i j r r' o o' a b c d hne => ?_,fun b o e => hao (hs.old b o e) hgr.size,fun id hid => ?_⟩,m2 hv hov⟩
   ·rcases h3 id r e with h | ⟨_,h⟩
    ·rw [e0] at h; cases h
    ·exact g.rng id r h rfl
   ·obtain ⟨id,r,o,e1,e2,rfl⟩ := hb
    rcases objs id r o e1 e2 with ⟨_,a,b⟩ | ⟨_,a,b⟩
    ·exact .inr ⟨id,r,o,a,b,rfl⟩
    ·exact .inl (hL _ ⟨id,r,o,a,b,rfl⟩)
   ·rcases objs id r o e e2 with ⟨_,a,b⟩ | ⟨_,a,b⟩
    ·have hlt := zbu hs ⟨id,r,o,a,b,rfl⟩
     exact (hs.obj id r o a b).alike (hgr.blk _ hlt) m1 fun _ e => e
    ·rename_i hge
     have hge' := hL _ ⟨id,r,o,a,b,rfl⟩
     cases s.obj id r o a b with
     | cells ro es arr ty hb hp hn' hs' hf hro hz' hFF hcs =>
       have hown := zkp hoo hge b (by
        rcases ha4 id τ.next with hq | hq
        ·exact hq
        ·rw [s.new id hq] at b; cases b)
       exact .cells ro es arr ty hb hp hn' hs' hf hro hz' (fun o _ hq => absurd (hs.old _ o hq) (by omega)) fun i e he j x hx => let ⟨v,q1,q2⟩ := hcs i e he j x hx; ⟨v,q1,m2 q2 (hown e (haj he) x (haj hx))⟩
     | map kvs es clock hb hst hn' hFF hcs =>
       exfalso
       have hlt : id < τ.next := by
        rcases ha4 id τ.next with hq | hq
        ·exact hq
        ·rw [s.new id hq] at b; cases b
       exact zko hoo hge hlt b
     | mbox =>
       exfalso
       have hlt : id < τ.next := by
        rcases ha4 id τ.next with hq | hq
        ·exact hq
        ·rw [s.new id hq] at b; cases b
       exact zit hoo hge hlt b
   ·rcases objs i r o a b with ⟨_,p1,p2⟩ | ⟨_,p1,p2⟩ <;> rcases objs j r' o' c d with ⟨_,q1,q2⟩ | ⟨_,q1,q2⟩
    ·exact hs.apart i j r r' o o' p1 p2 q1 q2 hne
    ·have e1 := zbu hs ⟨i,r,o,p1,p2,rfl⟩
     have e2 := hL _ ⟨j,r',o',q1,q2,rfl⟩
     omega
    ·have e1 := zbu hs ⟨j,r',o',q1,q2,rfl⟩
     have e2 := hL _ ⟨i,r,o,p1,p2,rfl⟩
     omega
    ·exact s.apart i j r r' o o' p1 p2 q1 q2 hne
   ·have hid' : τ.next ≤ id := hid
    show (if id < σ.next then σ.objs id else τ.objs id) = none
    rw [if_neg (by omega)]
    exact s.new id hid'
  ·cases h
 ·-- without a look at the store
  simp only [haa] at h
  obtain ⟨⟨v0,τ⟩,hc,h⟩ := h
  simp only at h
  split at h
  ·rename_i h0
   cases h
   refine (hC f _ _ v τ hc ρ F w us ⟨fun _ _ _ _ h => by (cases h),fun _ _ _ _ _ _ _ h => by (cases h),hs.old,fun _ _ => rfl⟩ hu fun id _ hid => by rw [h0] at hid; exact absurd hid (Nat.not_lt_zero _)).mono fun e w' ⟨vc,ρ',F',he,g,s,hv⟩ => ?_
   have hρ : ρ' = ρ := by
    funext id
    cases hq : ρ id with
    | some r => exact g.rec_ id r hq
    | none =>
      cases hq' : ρ' id with
      | none => rfl
      | some r => have := (g.rng id r hq' hq).2; rw [h0] at this; exact absurd this (Nat.not_lt_zero _)
   subst hρ
   have hLe : ∀ b,¬ Lv ρ' Store.empty b := fun b ⟨_,_,_,_,h,_⟩ => by cases h
   have hgr : Grew w w' := ⟨g.size,fun b hb => g.frame b hb (hLe b),g.os,g.tape,g.out⟩
   have hN : ∀ b o,F' b o → F b o ∨ w.heap.size ≤ b := fun b o e => by
    rcases g.froN b o e with e | e | e
    ·exact .inl e
    ·exact .inr e
    ·exact absurd e (hLe b)
   refine ⟨vc,ρ',F',he,Go1.of_grew hs hgr g.fro (fun b o e => (hN b o e).imp id .inl) rfl (fun _ o e => ⟨o,e⟩),hs.grew hgr g.fro s.old rfl (fun _ => .inl rfl) (fun id r ro es hr ho o _ e => ?_) (fun id r kvs hr ho hno o e => ?_),hv⟩
   ·rcases hN _ o e with e | e
    ·exact e
    ·have := zbu hs ⟨id,r,_,hr,ho,rfl⟩
     omega
   ·rcases hN _ o e with e | e
    ·exact e
    ·have := zbu hs ⟨id,r,_,hr,ho,rfl⟩
     omega
  ·cases h
end
end Go.Pvm
namespace Go.Pvm
section
variable {P : Program} {ρ : Where} {F : xx} {w : World} {σ : Store}
theorem zay {t : TypeId} {κ : IntKind} {vt : TypeId} (h : zkx P t = some (κ,vt)) : ∃ kt,P.underlying t = some (.map kt vt) ∧ P.underlying kt = some (.int κ) := by
 unfold zkx at h
 split at h
 ·rename_i kt vt' hu
  split at h
  ·rename_i κ' hk
   cases h
   exact ⟨kt,hu,hk⟩
  ·cases h
 ·cases h
theorem zcf {κ : IntKind} {n : Int} : ∀ (kvs : List (PV × PV)) (l : List MapEntry) (i : Nat) (r : Option (Nat × PV)),l.length = kvs.length → (∀ (j : Nat) (p : PV × PV),kvs[j]? = some p → ∃ e : MapEntry,l[j]? = some e ∧ VR ρ F w p.1 e.key ∧ VR ρ F w p.2 e.val) → zfx (.int κ n) kvs i = some r →
  ∃ a,Instr.findNow (.int κ) (.int κ n) l i = some a ∧ ((r = none ∧ a = none ∧ ∀ e ∈ l,e.key ≠ .int κ n) ∨ ∃ j v u,r = some (j,v) ∧ a = some (j,u) ∧ VR ρ F w v u ∧ i ≤ j ∧ j < i + l.length ∧ ∃ e,l[j - i]? = some e ∧ e.key = .int κ n)
 | [],l,i,r,hl,hc,h => by
   have : l = [] := ha1 hl
   subst this
   unfold zfx at h
   cases h
   exact ⟨none,rfl,.inl ⟨rfl,rfl,fun e he => by cases he⟩⟩
 | p :: kvs,l,i,r,hl,hc,h => by
   cases l with
   | nil => simp at hl
   | cons e l =>
     obtain ⟨e',h1,h2,h3⟩ := hc 0 p rfl
     simp only [List.getElem?_cons_zero,Option.some.injEq] at h1
     subst h1
     have hl' : l.length = kvs.length := by simpa using hl
     have hc' : ∀ (j : Nat) (p : PV × PV),kvs[j]? = some p → ∃ e : MapEntry,l[j]? = some e ∧ VR ρ F w p.1 e.key ∧ VR ρ F w p.2 e.val := fun j q hq => by
      obtain ⟨e,h1,h2⟩ := hc (j + 1) q (by simpa using hq)
      exact ⟨e,by simpa using h1,h2⟩
     unfold zfx at h
     split at h
     ·rename_i κ1 a κ2 b e1 e2
      cases e1
      have hk := by rw [e2] at h2; exact h2.int_inv
      split at h
      ·rename_i hκ
       subst hκ
       split at h
       ·rename_i hab
        subst hab
        cases h
        refine ⟨some (i,e.val),?_,.inr ⟨i,p.2,e.val,rfl,rfl,h3,hah _,by simp,e,by simp,hk⟩⟩
        simp [Instr.findNow,Instr.sameNow,hk]
       ·rename_i hab
        obtain ⟨a',q1,q2⟩ := zcf kvs l (i + 1) r hl' hc' h
        refine ⟨a',?_,?_⟩
        ·simp only [Instr.findNow,Instr.sameNow,hk,if_true]
         rw [show (n == b) = false from by simpa using hab]
         exact q1
        ·rcases q2 with ⟨q2,q3,q4⟩ | ⟨j,v,u,q2,q3,q4,q5,q6,ee,q7,q8⟩
         ·refine .inl ⟨q2,q3,fun x hx => ?_⟩
          rcases ha6.1 hx with rfl | hx
          ·rw [hk]; intro e; cases e; exact hab rfl
          ·exact q4 x hx
         ·refine .inr ⟨j,v,u,q2,q3,q4,by omega,by simp; omega,ee,?_,q8⟩
          rw [show j - i = (j - (i + 1)) + 1 by omega,List.getElem?_cons_succ]
          exact q7
      ·cases h
     ·cases h
theorem zcj (κ : IntKind) (n : Int) : MapKept.IsKey (.int κ) (.int κ n) := by simp [MapKept.IsKey]
theorem OR.map_inv {r : Rec} {kvs : List (PV × PV)} (h : OR ρ F w r (.map kvs)) : ∃ es clock,w.heap[r.block]? = some (.map es clock) ∧ MapKept.Stamped es clock ∧ es.size = kvs.length ∧ (∀ o,¬ F r.block o) ∧ ∀ (i : Nat) (p : PV × PV),kvs[i]? = some p → ∃ e : MapEntry,es[i]? = some e ∧ VR ρ F w p.1 e.key ∧ VR ρ F w p.2 e.val := by
 cases h with
 | map _ es clock hb hst hn hF hc => exact ⟨es,clock,hb,hst,hn,hF,hc⟩
theorem zke {t : TypeId} {x k v : PV} {ok : Bool} (h : js P σ t x k ok = some v) (hs : SR ρ F σ w) {cx ck : Value} (hx : VR ρ F w x cx) (hk : VR ρ F w k ck) : ∃ u,(Instr.lookup t cx ck ok).run P w = .ok u w ∧ VR ρ F w v u := by
 unfold js at h
 rw [haa] at h
 obtain ⟨⟨κ,vt⟩,hm,h⟩ := h
 obtain ⟨kt,hu,hku⟩ := zay hm
 simp only at h
 split at h
 ·rename_i id κ' n
  obtain ⟨r,hr,rfl⟩ := hx.mref_inv
  obtain rfl := hk.int_inv
  split at h
  ·rename_i hκ
   subst hκ
   split at h
   ·rename_i kvs ho
    obtain ⟨es,clock,hb,hst,hn,hF,hc⟩ := (hs.obj id r _ hr ho).map_inv
    rw [haa] at h
    obtain ⟨q,hq,h⟩ := h
    obtain ⟨a,h1,h2⟩ := zcf kvs es.toList 0 q (by simpa using hn) (fun j p hp => by
     obtain ⟨e,e1,e2⟩ := hc j p hp
     exact ⟨e,by simpa using e1,e2⟩) hq
    have hf := MapKept.run_findKey (w := w) hku h1
    have hck := MapKept.run_checkKey (w := w) hku (zcj κ' n) es.isEmpty 9999
    rcases h2 with ⟨rfl,rfl,hno⟩ | ⟨j,v0,u0,rfl,rfl,h3,_⟩
    ·rw [Option.map_map,hac] at h
     obtain ⟨z,hz,h⟩ := h
     obtain ⟨i,z0,hi,hz0,rfl⟩ := ji hz
     have hzr := qt (P := P) hi hz0 w
     refine ⟨if ok = true then .tuple #[z0,.bool false] else z0,?_,?_⟩
     ·simp [Instr.lookup,run_underlying hu,MapKept.run_getObj_map hb,hck,hf,hzr,Result.andThen]
     ·simp only [Function.comp] at h
      subst h
      cases ok with
      | true => exact VR.tuple' (.cons (wn z0) (.one (.pure (.bool false))))
      | false => exact wn z0
    ·simp only [Option.map_some,Option.some.injEq] at h
     refine ⟨if ok = true then .tuple #[u0,.bool true] else u0,?_,?_⟩
     ·simp [Instr.lookup,run_underlying hu,MapKept.run_getObj_map hb,hck,hf,Result.andThen]
     ·subst h
      cases ok with
      | true => exact VR.tuple' (.cons h3 (.one (.pure (.bool true))))
      | false => exact h3
   ·cases h
  ·cases h
 ·cases h
theorem zkd {x v : PV} (h : zew σ x = some v) (hs : SR ρ F σ w) {cx : Value} (hx : VR ρ F w x cx) {t ty : TypeId} {kt vt : TypeId} (hu : P.underlying t = some (.map kt vt)) : ∃ u,(Builtin.len_ #[t] ty #[cx]).run P w = .ok u w ∧ VR ρ F w v u := by
 unfold zew at h
 split at h
 ·rename_i id
  obtain ⟨r,hr,rfl⟩ := hx.mref_inv
  split at h
  ·rename_i kvs ho
   cases h
   obtain ⟨es,clock,hb,hst,hn,hF,hc⟩ := (hs.obj id r _ hr ho).map_inv
   refine ⟨.int .i64 (kvs.length : Nat),?_,.pure (.int _ _)⟩
   simp [Builtin.len_,run_underlying hu,MapKept.run_getObj_map hb,hn,Result.andThen,goInt]
  ·cases h
 ·cases h
theorem zi0 (hs : SR ρ F σ w) (hn : ρ σ.next = none) : Go1 ρ F σ w (ρ.put σ.next ⟨w.heap.size,0,0,0,0⟩) F (σ.push (.map [])) (w.alloc (.map #[] 0)) ∧ SR (ρ.put σ.next ⟨w.heap.size,0,0,0,0⟩) F (σ.push (.map [])) (w.alloc (.map #[] 0)) := by
 obtain ⟨hnew,hold'⟩ := MapKept.heap_alloc w (.map #[] 0)
 have hold : ∀ b,b < w.heap.size → (w.alloc (.map #[] 0)).heap[b]? = w.heap[b]? := hold'
 have hcell : ∀ b o,F b o → (w.alloc (.map #[] 0)).cell? ⟨b,o,none⟩ = w.cell? ⟨b,o,none⟩ := fun b o hF => by simp [World.cell?,hold b (hs.old b o hF)]
 have hsz : w.heap.size ≤ (w.alloc (.map #[] 0)).heap.size := by
  have e : (w.alloc (.map #[] 0)).heap = w.heap.push (.map #[] 0) := rfl
  rw [e]; simp
 generalize hr0 : (⟨w.heap.size,0,0,0,0⟩ : Rec) = r0
 have hb0 : r0.block = w.heap.size := by rw [← hr0]
 have hrec : ∀ id r,ρ id = some r → ρ.put σ.next r0 id = some r := fun id r hr => by
  unfold Where.put
  rw [if_neg (by rintro rfl; rw [hn] at hr; cases hr)]
  exact hr
 have hput : ∀ id r,ρ.put σ.next r0 id = some r → (id = σ.next ∧ r = r0) ∨ (id ≠ σ.next ∧ ρ id = some r) := fun id r e => by
  unfold Where.put at e
  split at e
  ·cases e; exact .inl ⟨by assumption,rfl⟩
  ·exact .inr ⟨by assumption,e⟩
 have hobj : ∀ id o,(σ.push (.map [])).objs id = some o → (id = σ.next ∧ o = .map []) ∨ (id ≠ σ.next ∧ σ.objs id = some o) := fun id o e => by
  simp only [Store.push] at e
  split at e
  ·cases e; exact .inl ⟨by assumption,rfl⟩
  ·exact .inr ⟨by assumption,e⟩
 have hblk : ∀ id r o,ρ id = some r → σ.objs id = some o → r.block < w.heap.size := fun id r o hr ho => (hs.obj id r o hr ho).in_
 have hmono : ∀ {v : PV} {c : Value},VR ρ F w v c → VR (ρ.put σ.next r0) F (w.alloc (.map #[] 0)) v c := fun h => h.mono hrec (fun _ _ e => e) hcell
 have hGo : Go1 ρ F σ w (ρ.put σ.next r0) F (σ.push (.map [])) (w.alloc (.map #[] 0)) := by
  refine ⟨hrec,fun id r e e0 => ?_,by simp [Store.push],fun _ _ e => e,hcell,hsz,fun b hb _ => hold b hb,fun _ _ e => .inl e,fun b hl => ?_,rfl,rfl,rfl⟩
  ·rcases hput id r e with ⟨rfl,_⟩ | ⟨_,e1⟩
   ·simp [Store.push]
   ·rw [e0] at e1; cases e1
  ·obtain ⟨id,r,o,e1,e2,rfl⟩ := hl
   rcases hput id r e1 with ⟨rfl,rfl⟩ | ⟨hne,e1⟩
   ·rw [hb0]; exact .inl (hah _)
   ·rcases hobj id o e2 with ⟨rfl,_⟩ | ⟨_,e2⟩
    ·exact absurd rfl hne
    ·exact .inr ⟨id,r,o,e1,e2,rfl⟩
 refine ⟨hGo,fun id r o e1 e2 => ?_,fun id id' r r' o o' e1 e2 e3 e4 hne => ?_,fun b o hF => hao (hs.old b o hF) hGo.size,fun id hid => ?_⟩
 ·rcases hput id r e1 with ⟨rfl,rfl⟩ | ⟨hne,e1⟩
  ·rcases hobj _ o e2 with ⟨_,rfl⟩ | ⟨hne,_⟩
   ·refine .map [] #[] 0 (by rw [hb0]; exact hnew) (MapKept.stamped_empty 0) rfl (fun o hF => ?_) fun i p hp => by simp at hp
    rw [hb0] at hF
    exact Nat.lt_irrefl _ (hs.old _ _ hF)
   ·exact absurd rfl hne
  ·rcases hobj id o e2 with ⟨rfl,_⟩ | ⟨_,e2⟩
   ·exact absurd rfl hne
   ·exact (hs.obj id r o e1 e2).alike (hold _ (hblk id r o e1 e2)) hmono fun _ e => e
 ·rcases hput id r e1 with ⟨rfl,rfl⟩ | ⟨hn1,e1⟩
  ·rcases hput id' r' e3 with ⟨rfl,_⟩ | ⟨hn2,e3⟩
   ·exact absurd rfl hne
   ·rcases hobj id' o' e4 with ⟨rfl,_⟩ | ⟨_,e4⟩
    ·exact absurd rfl hn2
    ·have := hblk _ _ _ e3 e4
     rw [hb0]; omega
  ·rcases hobj id o e2 with ⟨rfl,_⟩ | ⟨_,e2⟩
   ·exact absurd rfl hn1
   ·have hlt := hblk _ _ _ e1 e2
    rcases hput id' r' e3 with ⟨rfl,rfl⟩ | ⟨hn2,e3⟩
    ·rw [hb0]; omega
    ·rcases hobj id' o' e4 with ⟨rfl,_⟩ | ⟨_,e4⟩
     ·exact absurd rfl hn2
     ·exact hs.apart id id' r r' o o' e1 e2 e3 e4 hne
 ·simp only [Store.push] at hid ⊢
  rw [if_neg (by omega)]
  exact hs.new id (by omega)
theorem wa (hs : SR ρ F σ w) {id : Nat} {r : Rec} {kvs kvs' : List (PV × PV)} (hr : ρ id = some r) (ho : σ.objs id = some (.map kvs)) {es' : Array MapEntry} {clock' : Nat} (hst' : MapKept.Stamped es' clock') (hn' : es'.size = kvs'.length)
  (hc' : ∀ (i : Nat) (p : PV × PV),kvs'[i]? = some p → ∃ e : MapEntry,es'[i]? = some e ∧ VR ρ F w p.1 e.key ∧ VR ρ F w p.2 e.val) :
  Go1 ρ F σ w ρ F (σ.put id (.map kvs')) { w with heap := w.heap.setIfInBounds r.block (.map es' clock') } ∧ SR ρ F (σ.put id (.map kvs')) { w with heap := w.heap.setIfInBounds r.block (.map es' clock') } := by
 obtain ⟨es,clock,hb,hst,hn,hF,hc⟩ := (hs.obj id r _ hr ho).map_inv
 obtain ⟨hnewb,hoth⟩ := MapKept.heap_set (o' := .map es' clock') hb
 have hcell : ∀ b k,F b k → ({ w with heap := w.heap.setIfInBounds r.block (.map es' clock') } : World).cell? ⟨b,k,none⟩ = w.cell? ⟨b,k,none⟩ := fun b k hFk => by
  have hne : b ≠ r.block := fun e => hF k (e ▸ hFk)
  simp [World.cell?,hoth b hne]
 have hmono : ∀ {v : PV} {c : Value},VR ρ F w v c → VR ρ F { w with heap := w.heap.setIfInBounds r.block (.map es' clock') } v c := fun h => h.mono (fun _ _ e => e) (fun _ _ e => e) hcell
 have hlive : Lv ρ σ r.block := ⟨id,r,_,hr,ho,rfl⟩
 have hobj : ∀ i x,(σ.put id (.map kvs')).objs i = some x → (i = id ∧ x = .map kvs') ∨ (i ≠ id ∧ σ.objs i = some x) := fun i x e => by
  simp only [Store.put] at e
  split at e
  ·cases e; exact .inl ⟨by assumption,rfl⟩
  ·exact .inr ⟨by assumption,e⟩
 have hsub : ∀ i x,(σ.put id (.map kvs')).objs i = some x → ∃ x',σ.objs i = some x' := fun i x e => by
  rcases hobj i x e with ⟨rfl,_⟩ | ⟨_,h⟩
  ·exact ⟨_,ho⟩
  ·exact ⟨_,h⟩
 refine ⟨⟨fun _ _ e => e,fun i q e e0 => absurd (e0.symm.trans e) (by simp),hah _,fun _ _ e => e,hcell,by simp,fun b _ hl => hoth b (fun e => hl (e ▸ hlive)),fun _ _ e => .inl e,fun b ⟨i,q,x,e1,e2,e3⟩ => ?_,rfl,rfl,rfl⟩,fun i q x e1 e2 => ?_,fun i j q q' x x' e1 e2 e3 e4 hne => ?_,fun b k hFk => by simpa using hs.old b k hFk,fun i hi => ?_⟩
 ·obtain ⟨x',h⟩ := hsub i x e2
  exact .inr ⟨i,q,x',e1,h,e3⟩
 ·rcases hobj i x e2 with ⟨rfl,rfl⟩ | ⟨hne,h⟩
  ·rw [hr] at e1
   cases e1
   exact .map kvs' es' clock' hnewb hst' hn' hF fun i p hp => let ⟨e,q1,q2,q3⟩ := hc' i p hp; ⟨e,q1,hmono q2,hmono q3⟩
  ·exact (hs.obj i q x e1 h).alike (hoth _ (hs.apart i id q r _ _ e1 h hr ho hne)) hmono fun _ e => e
 ·obtain ⟨y,h1⟩ := hsub i x e2
  obtain ⟨y',h2⟩ := hsub j x' e4
  exact hs.apart i j q q' y y' e1 h1 e3 h2 hne
 ·simp only [Store.put]
  split
  ·rename_i e
   subst e
   have := hs.new i hi
   rw [ho] at this
   cases this
  ·exact hs.new i hi
theorem zky {t : TypeId} {h : Option PV} {v : PV} {σ' : Store} (hh : qg P σ t h = some (v,σ')) (hs : SR ρ F σ w) (hn : ρ σ.next = none) {ch : Option Value} (hv : VRo ρ F w h ch) : Res P ρ F σ w σ' v (Instr.makeMap t ch) := by
 unfold qg at hh
 rw [haa] at hh
 obtain ⟨⟨κ,vt⟩,hm,hh⟩ := hh
 obtain ⟨kt,hu,hku⟩ := zay hm
 obtain ⟨g,s⟩ := zi0 hs hn
 have fin : (Instr.makeMap t ch).run P w = .ok (.map (some w.heap.size)) (w.alloc (.map #[] 0)) ∧ v = .mref σ.next ∧ σ' = σ.push (.map []) := by
  split at hh
  ·cases hh
   cases ch with
   | none => exact ⟨by simp [Instr.makeMap,Result.andThen],rfl,rfl⟩
   | some c => exact absurd hv id
  ·cases hh
   cases ch with
   | none => exact absurd hv id
   | some c =>
     obtain rfl := VR.int_inv hv
     exact ⟨by simp [Instr.makeMap,run_underlying hu,asInt,asIntOf,Result.andThen],rfl,rfl⟩
  ·cases hh
 obtain ⟨h1,rfl,rfl⟩ := fin
 exact ⟨_,_,_,_,h1,g,s,.mref σ.next _ (zas _ _)⟩
theorem znt {t : TypeId} {x k v : PV} {σ' : Store} (h : kz P σ t x k v = some σ') (hs : SR ρ F σ w) {cx ck cv : Value} (hx : VR ρ F w x cx) (hk : VR ρ F w k ck) (hv : VR ρ F w v cv) :
  ∃ w',(Instr.mapUpdate t cx ck cv).run P w = .ok () w' ∧ Go1 ρ F σ w ρ F σ' w' ∧ SR ρ F σ' w' := by
 unfold kz at h
 rw [haa] at h
 obtain ⟨⟨κ,vt⟩,hm,h⟩ := h
 obtain ⟨kt,hu,hku⟩ := zay hm
 simp only at h
 split at h
 ·rename_i id κ' n
  obtain ⟨r,hr,rfl⟩ := hx.mref_inv
  obtain rfl := hk.int_inv
  split at h
  ·rename_i hκ
   subst hκ
   split at h
   ·rename_i kvs ho
    obtain ⟨es,clock,hb,hst,hn,hF,hc⟩ := (hs.obj id r _ hr ho).map_inv
    rw [hac] at h
    obtain ⟨q,hq,h⟩ := h
    obtain ⟨a,h1,h2⟩ := zcf kvs es.toList 0 q (by simpa using hn) (fun j p hp => by
     obtain ⟨e,e1,e2⟩ := hc j p hp
     exact ⟨e,by simpa using e1,e2⟩) hq
    have hf := MapKept.run_findKey (w := w) hku h1
    have hck := MapKept.run_checkKey (w := w) hku (zcj κ' n) false 9999
    rcases h2 with ⟨rfl,rfl,hno⟩ | ⟨j,v0,u0,rfl,rfl,h3,_,hj,e0,he0,hek⟩
    ·simp only at h
     subst h
     obtain ⟨g,s⟩ := wa (es' := es.push { key := .int κ' n,val := cv,born := clock }) (clock' := clock + 1) (kvs' := kvs ++ [(.int κ' n,v)]) hs hr ho (MapKept.stamped_push hst hno) (by simp [hn]) (fun i p hp => by
      rw [List.getElem?_append] at hp
      split at hp
      ·rename_i hi
       obtain ⟨e,e1,e2⟩ := hc i p hp
       refine ⟨e,?_,e2⟩
       rw [Array.getElem?_push,if_neg (by omega)]
       exact e1
      ·rename_i hi
       have hi2 : i = kvs.length := by
        have := (had.1 hp).1
        simp at this; omega
       subst hi2
       simp at hp
       subst hp
       refine ⟨{ key := .int κ' n,val := cv,born := clock },?_,.pure (.int _ _),hv⟩
       rw [Array.getElem?_push,if_pos hn.symm])
     refine ⟨_,?_,g,s⟩
     simp [Instr.mapUpdate,run_underlying hu,MapKept.run_getObj_map hb,hck,hf,MapKept.run_setObj_map _ hb,Result.andThen]
    ·simp only at h
     subst h
     simp only [hb4,Nat.sub_zero] at hj he0
     have hj' : j < es.size := by simpa using hj
     have heg : es[j]? = some e0 := by simpa using he0
     obtain ⟨g,s⟩ := wa (es' := es.modify j fun e => { e with key := .int κ' n,val := cv }) (clock' := clock) (kvs' := kvs.set j (.int κ' n,v)) hs hr ho (MapKept.stamped_modify hst _ _ (fun _ _ => rfl) (fun e _ he => by rw [heg] at he; cases he; exact hek.symm)) (by simp [hn]) (fun i p hp => by
      rw [List.getElem?_set] at hp
      split at hp
      ·rename_i hi
       subst hi
       split at hp
       ·cases hp
        refine ⟨{ e0 with key := .int κ' n,val := cv },?_,.pure (.int _ _),hv⟩
        rw [Array.getElem?_modify,if_pos rfl,heg]
        rfl
       ·cases hp
      ·rename_i hi
       obtain ⟨e,e1,e2⟩ := hc i p hp
       refine ⟨e,?_,e2⟩
       rw [Array.getElem?_modify,if_neg hi]
       exact e1)
     refine ⟨_,?_,g,s⟩
     have hkey : ((es[j]?).map (·.key)).getD (.int κ' n) = .int κ' n := by rw [heg]; exact hek
     have hks := MapKept.run_keyThatStays (P := P) (w := w) (zcj κ' n)
     simp [Instr.mapUpdate,run_underlying hu,MapKept.run_getObj_map hb,hck,hf,hkey,hks,MapKept.run_setObj_map _ hb,Result.andThen]
   ·cases h
  ·cases h
 ·cases h
theorem znu {t kt0 ty : TypeId} {x k : PV} {σ' : Store} (h : zab P σ t x k = some σ') (hs : SR ρ F σ w) {cx ck : Value} (hx : VR ρ F w x cx) (hk : VR ρ F w k ck) :
  ∃ w',(Builtin.delete_ #[t,kt0] ty #[cx,ck]).run P w = .ok (.tuple #[]) w' ∧ Go1 ρ F σ w ρ F σ' w' ∧ SR ρ F σ' w' := by
 unfold zab at h
 rw [haa] at h
 obtain ⟨⟨κ,vt⟩,hm,h⟩ := h
 obtain ⟨kt,hu,hku⟩ := zay hm
 simp only at h
 split at h
 ·rename_i id κ' n
  obtain ⟨r,hr,rfl⟩ := hx.mref_inv
  obtain rfl := hk.int_inv
  split at h
  ·rename_i hκ
   subst hκ
   split at h
   ·rename_i kvs ho
    obtain ⟨es,clock,hb,hst,hn,hF,hc⟩ := (hs.obj id r _ hr ho).map_inv
    rw [hac] at h
    obtain ⟨q,hq,h⟩ := h
    obtain ⟨a,h1,h2⟩ := zcf kvs es.toList 0 q (by simpa using hn) (fun j p hp => by
     obtain ⟨e,e1,e2⟩ := hc j p hp
     exact ⟨e,by simpa using e1,e2⟩) hq
    have hf := MapKept.run_findKey (w := w) hku h1
    have hck := MapKept.run_checkKey (w := w) hku (zcj κ' n) es.isEmpty 9999
    rcases h2 with ⟨rfl,rfl,hno⟩ | ⟨j,v0,u0,rfl,rfl,h3,_,hj,e0,he0,hek⟩
    ·simp only at h
     subst h
     obtain ⟨g,s⟩ := wa (es' := es) (clock' := clock) (kvs' := kvs) hs hr ho hst hn hc
     refine ⟨_,?_,g,s⟩
     simp [Builtin.delete_,run_underlying hu,MapKept.run_getObj_map hb,hck,hf,MapKept.run_setObj_map _ hb,Result.andThen]
    ·simp only at h
     subst h
     simp only [hb4,Nat.sub_zero] at hj he0
     have hj' : j < es.size := by simpa using hj
     have heq : es.eraseIdxIfInBounds j = es.eraseIdx j hj' := by unfold Array.eraseIdxIfInBounds; rw [dif_pos hj']
     obtain ⟨g,s⟩ := wa (es' := es.eraseIdxIfInBounds j) (clock' := clock) (kvs' := kvs.eraseIdx j) hs hr ho (MapKept.stamped_erase hst j) (by rw [heq,Array.size_eraseIdx,List.length_eraseIdx,if_pos (by omega),hn]) (fun i p hp => by
      rw [List.getElem?_eraseIdx] at hp
      have hg : (es.eraseIdxIfInBounds j)[i]? = if i < j then es[i]? else es[i + 1]? := by
       rw [heq,← hay,Array.toList_eraseIdx,List.getElem?_eraseIdx]
       simp
      rw [hg]
      split at hp
      ·rename_i hi
       rw [if_pos hi]
       exact hc i p hp
      ·rename_i hi
       rw [if_neg hi]
       exact hc (i + 1) p hp)
     refine ⟨_,?_,g,s⟩
     simp [Builtin.delete_,run_underlying hu,MapKept.run_getObj_map hb,hck,hf,MapKept.run_setObj_map _ hb,Result.andThen]
   ·cases h
  ·cases h
 ·cases h
theorem znv {t kt0 ty : TypeId} {x k : PV} {σ' : Store} (h : zab P σ t x k = some σ') (hs : SR ρ F σ w) {cx ck : Value} (hx : VR ρ F w x cx) (hk : VR ρ F w k ck) :
  Res P ρ F σ w σ' (.tuple []) (Builtin.delete_ #[t,kt0] ty #[cx,ck]) := by
 obtain ⟨w',h1,g,s⟩ := znu (kt0 := kt0) (ty := ty) h hs hx hk
 exact ⟨_,_,_,_,h1,g,s,.pure (.tuple [] [] (fun _ => .nilFunc) rfl (fun i c e => by simp at e) (fun i c e => by simp at e))⟩
theorem zcg {t : TypeId} {h : Option PV} {v : PV} {σ' : Store} (hh : qg P σ t h = some (v,σ')) : σ' = σ.push (.map []) ∧ v = .mref σ.next ∧ ∀ τ : Store,qg P τ t h = some (.mref τ.next,τ.push (.map [])) := by
 unfold qg at hh ⊢
 rw [haa] at hh
 obtain ⟨q,hm,hh⟩ := hh
 rw [hm]
 simp only [Option.bind_some]
 split at hh
 ·cases hh; exact ⟨rfl,rfl,fun _ => rfl⟩
 ·cases hh; exact ⟨rfl,rfl,fun _ => rfl⟩
 ·cases hh
theorem zev {t : TypeId} {x k v : PV} {σ' : Store} (h : kz P σ t x k v = some σ') : ∃ id kvs kvs',x = .mref id ∧ σ.objs id = some (.map kvs) ∧ σ' = σ.put id (.map kvs') := by
 unfold kz at h
 rw [haa] at h
 obtain ⟨⟨κ,vt⟩,hm,h⟩ := h
 simp only at h
 split at h
 ·split at h
  ·split at h
   ·rename_i id κ' n _ _ kvs ho
    rw [hac] at h
    obtain ⟨q,hq,h⟩ := h
    cases q with
    | none => exact ⟨_,kvs,_,rfl,ho,h.symm⟩
    | some q => exact ⟨_,kvs,_,rfl,ho,h.symm⟩
   ·cases h
  ·cases h
 ·cases h
theorem zex {t : TypeId} {x k : PV} {σ' : Store} (h : zab P σ t x k = some σ') : ∃ id kvs kvs',x = .mref id ∧ σ.objs id = some (.map kvs) ∧ σ' = σ.put id (.map kvs') := by
 unfold zab at h
 rw [haa] at h
 obtain ⟨⟨κ,vt⟩,hm,h⟩ := h
 simp only at h
 split at h
 ·split at h
  ·split at h
   ·rename_i id κ' n _ _ kvs ho
    rw [hac] at h
    obtain ⟨q,hq,h⟩ := h
    cases q with
    | none => exact ⟨_,kvs,_,rfl,ho,h.symm⟩
    | some q => exact ⟨_,kvs,_,rfl,ho,h.symm⟩
   ·cases h
  ·cases h
 ·cases h
end
end Go.Pvm
namespace Go.Pvm
section
variable {ρ : Where} {F : xx} {w : World} {σ : Store}
def EnvR (ρ : Where) (F : xx) (w : World) (env : List PV) (a : Act) : Prop := a.tmps.size = env.length ∧ ∀ t,VR ρ F w (env.getD t .undef) (a.tmps.getD t undef)
theorem EnvR.opd {env : List PV} {a : Act} (h : EnvR ρ F w env a) (x : Operand) : VR ρ F w (opd env x) (a.eval x) := by
 cases x with
 | tmp t => exact h.2 t
 | const v => exact .pure (zc1 F w v)
 | global g => exact .pure (.undef _)
 | func f => exact .func' (us := []) .nil
theorem EnvR.put {env : List PV} {a : Act} (h : EnvR ρ F w env a) (d : Option Nat) {v : PV} {c : Value} (hv : VR ρ F w v c) : EnvR ρ F w (zfu env d v) (a.put d c) := by
 cases d with
 | none => exact h
 | some t =>
   refine ⟨by simp [zfu,Act.put,h.1],fun k => ?_⟩
   have h1 : (a.put (some t) c).tmps = a.tmps.setIfInBounds t c := rfl
   have h2 : zfu env (some t) v = env.set t v := rfl
   rw [h1,h2,hai,Array.getD_eq_getD_getElem?]
   by_cases hk : k = t
   ·subst hk
    have hsz := h.1
    by_cases hlt : k < env.length
    ·rw [ha3 hlt,Array.getElem?_setIfInBounds_self_of_lt (by omega)]
     exact hv
    ·rw [hbv (by simp; omega)]
     exact .pure (.undef _)
   ·rw [ha5 (Ne.symm hk),Array.getElem?_setIfInBounds_ne (Ne.symm hk)]
    have := h.2 k
    rwa [hai,Array.getD_eq_getD_getElem?] at this
theorem EnvR.go1 {ρ' : Where} {F' : xx} {σ' : Store} {w' : World} {env : List PV} {a : Act} (h : EnvR ρ F w env a) (g : Go1 ρ F σ w ρ' F' σ' w') : EnvR ρ' F' w' env a := ⟨h.1,fun t => g.vr (h.2 t)⟩
def OpOk (P : Program) (ρ : Where) (F : xx) (σ : Store) (w : World) (o : Oper) (a : Act) (v : PV) (σ' : Store) : Prop :=
 ∀ (K : Act → World → Prop) (Q : Exit → Act → World → Prop),(∀ vc ρ' F' w',Go1 ρ F σ w ρ' F' σ' w' → SR ρ' F' σ' w' → VR ρ' F' w' v vc → K (a.put o.dst vc) w') → o.wp P a w K Q
theorem OpOk.of_res {P : Program} {o : Oper} {a : Act} {v : PV} {σ' : Store} {s : Sem Value} (h : Res P ρ F σ w σ' v s) (he : ∀ w',(execOp a.eval o).run P w' = ((do pure (.value (← s))) : Sem Next).run P w') : OpOk P ρ F σ w o a v σ' := by
 intro K Q hK
 obtain ⟨u,ρ',F',w',h1,g,s',hv⟩ := h
 unfold Oper.wp
 rw [he]
 simp only [Sem.run_bind,h1,Result.andThen_ok,Sem.run_pure,Oper.upon_value]
 exact hK u ρ' F' w' g s' hv
theorem OpOk.read {P : Program} {o : Oper} {a : Act} {v : PV} {s : Sem Value} (hs : SR ρ F σ w) (h : ∃ u,s.run P w = .ok u w ∧ VR ρ F w v u) (he : ∀ w',(execOp a.eval o).run P w' = ((do pure (.value (← s))) : Sem Next).run P w') : OpOk P ρ F σ w o a v σ :=
 .of_res (.read hs h) he
theorem zbh : VR ρ F w (.tuple []) (.tuple #[]) := .pure (.tuple [] [] (fun _ => .nilFunc) rfl (fun i c e => by simp at e) (fun i c e => by simp at e))
theorem zk5 {P : Program} {f : FuncId} (h : enters P f = true) : ∃ fn,P.funcs[f]? = some fn ∧ fn.body.isNone = false ∧ (fn.name == "runtime.NumGoroutine") = false := by
 unfold enters at h
 split at h
 ·rename_i fn hf
  simp only [haq,bne_iff_ne,ne_eq] at h
  exact ⟨fn,hf,by simpa using h.1,by simpa using h.2⟩
 ·cases h
theorem zc9 {P : Program} {f : FuncId} {e : Ext} (h : zs0 P f = some e) : ∃ fn,P.funcs[f]? = some fn ∧ fn.body.isNone = true ∧ (fn.name == "runtime.NumGoroutine") = false ∧ Extern.findNext fn = none ∧
  match e with
  | .f64bits => Extern.find fn = some Extern.MathFloatBits.float64bits
  | .f64from => Extern.find fn = some Extern.MathFloatBits.float64frombits
  | .overlaps t => fn.params[0]? = some t ∧ Extern.find fn = some (Extern.SlicesOverlaps.overlaps fn.params fn.resultTypes) := by
 unfold zs0 at h
 split at h
 rotate_left
 ·cases h
 rename_i fn hf
 split at h
 ·cases h
 rename_i hc
 simp only [Bool.or_eq_true,not_or,Bool.not_eq_true] at hc
 obtain ⟨⟨h1,h2⟩,h3⟩ := hc
 have hb : fn.body.isNone = true := by cases hq : fn.body with
  | none => rfl
  | some _ => rw [hq] at h1; cases h1
 have hn : Extern.findNext fn = none := by cases hq : Extern.findNext fn with
  | none => rfl
  | some _ => rw [hq] at h3; cases h3
 refine ⟨fn,hf,hb,h2,hn,?_⟩
 have look : ∀ (n : String) (e : Array Value → Sem Value),Extern.allGenericRows.lookup n = none → Extern.allTypedRows.lookup n = none → Extern.allRows.lookup n = some e → fn.name = n → Extern.find fn = some e := fun n e g1 g2 g3 g4 => by
  unfold Extern.find
  simp only [g4,g1,g2,g3,Option.map_none]
  rfl
 split at h
 ·rename_i hn1
  cases h
  exact look _ _ (by kernel_rfl) (by kernel_rfl) (by kernel_rfl) (by simpa using hn1)
 split at h
 ·rename_i hn1
  cases h
  exact look _ _ (by kernel_rfl) (by kernel_rfl) (by kernel_rfl) (by simpa using hn1)
 split at h
 ·rename_i hn1
  simp only [haq,beq_iff_eq,Option.isNone_iff_eq_none] at hn1
  obtain ⟨⟨⟨g0,g1⟩,g2⟩,g3⟩ := hn1
  rw [hac] at h
  obtain ⟨t,ht,rfl⟩ := h
  refine ⟨ht,?_⟩
  have r1 : Extern.allGenericRows.lookup "slices.overlaps" = none := by kernel_rfl
  have r2 : Extern.allTypedRows.lookup "slices.overlaps" = some Extern.SlicesOverlaps.overlaps := by kernel_rfl
  unfold Extern.find
  simp only [g0,g1,g2,g3,r1,r2,Option.map_none,Option.map_some]
  rfl
 ·cases h
theorem ziu {P : Program} (hs : SR ρ F σ w) {t el : TypeId} {params rs : Array TypeId} (hp : params[0]? = some t) (ht : P.underlying t = some (.slice el)) {sz : Nat} (hz : qk P el = some sz) {id id2 sz1 sz2 i1 i2 l1 l2 : Nat} {c1 c2 : Option Nat} (hne : id ≠ id2) {ro1 ro2 : Nat} {es1 es2 : List (List PV)}
  (ho1 : σ.objs id = some (.cells ro1 es1)) (ho2 : σ.objs id2 = some (.cells ro2 es2)) {u1 u2 : Value} (h1 : VR ρ F w (.lsl id sz1 i1 l1 c1) u1) (h2 : VR ρ F w (.lsl id2 sz2 i2 l2 c2) u2) :
  (Extern.SlicesOverlaps.overlaps params rs #[u1,u2]).run P w = .ok (.bool false) w := by
 obtain ⟨r,b,o,c,hr,_,rfl,hab,hlc,_⟩ := h1.lsl_inv
 obtain ⟨r',b',o',c',hr',_,rfl,hab',hlc',_⟩ := h2.lsl_inv
 change Sem.run P (α := Value) (do
  let some t := params[0]? | stuck "slices.overlaps: no parameter types"
  let .slice elem ← underlying t | stuck "slices.overlaps: slice type expected"
  let size ← sizeOf elem
  match (some ⟨b,o,none⟩ : Option Addr),(some ⟨b',o',none⟩ : Option Addr) with
  | some a,some b =>
    if l1 = 0 ∨ l2 = 0 ∨ size = 0 then pure (Value.bool false)
    else if a.block != b.block && (← frozen a) && (← frozen b) then unsupported .addressObserved
    else do
     if a.block != b.block then do
      noView a; noView b
      if ← mayBeOne a b then return Value.bool ((← choose (.extern "sameAddr.stringBytes" 2)) == 1)
     pure (Value.bool (a.block == b.block && a.off < b.off + l2 * size && b.off < a.off + l1 * size))
  | _,_ => pure (Value.bool false)) w = _
 by_cases h0 : l1 = 0 ∨ l2 = 0 ∨ sz = 0
 ·simp [hp,run_underlying ht,xm hz,h0]
 ·simp only [not_or] at h0
  obtain ⟨rfl,_⟩ := hab (by omega)
  obtain ⟨rfl,_⟩ := hab' (by omega)
  have hbb : r.block ≠ r'.block := hs.apart id id2 r r' _ _ hr ho1 hr' ho2 hne
  obtain ⟨arr,ty,hb,_⟩ := (hs.obj id r _ hr ho1).cells_inv
  obtain ⟨arr',ty',hb',_⟩ := (hs.obj id2 r' _ hr' ho2).cells_inv
  have f1 : ∀ o,w.frozen? ⟨r.block,o,none⟩ = false := fun o => by simp [World.frozen?,hb]
  have f2 : ∀ o,w.frozen? ⟨r'.block,o,none⟩ = false := fun o => by simp [World.frozen?,hb']
  have s1 : w.shape? r.block = some (ty,arr.size) := by simp [World.shape?,hb]
  have s2 : w.shape? r'.block = some (ty',arr'.size) := by simp [World.shape?,hb']
  have hnb : (r.block != r'.block) = true := by simpa using hbb
  have hnb' : (r.block == r'.block) = false := by simpa using hbb
  simp [hp,run_underlying ht,xm hz,h0,hnb,hnb',frozen,noView,viewAt,mayBeOne,stringish,shape,Sem.run,s1,s2,f1,f2]
theorem zod {cfg : Cfg} (hs : SR ρ F σ w) {f : FuncId} {args : List PV} {v : PV} {σ' : Store} (h : ztu cfg f args σ = some (v,σ')) {us : List Value} (hu : VRs ρ F w args us) :
  σ' = σ ∧ ∃ u,(callFunc f us.toArray).run cfg.P w = .ok (.value u) w ∧ VR ρ F w v u := by
 have key : ∀ {fn : Func} {e : Array Value → Sem Value} {u : Value},cfg.P.funcs[f]? = some fn → fn.body.isNone = true → (fn.name == "runtime.NumGoroutine") = false → Extern.findNext fn = none → Extern.find fn = some e → (e us.toArray).run cfg.P w = .ok u w → (callFunc f us.toArray).run cfg.P w = .ok (.value u) w := fun h1 h2 h3 h4 h5 h6 => by
  rw [run_callFunc_extern h1 h3 h2 h4 h5,h6]; rfl
 unfold ztu at h
 split at h
 ·rw [hac] at h
  obtain ⟨x,hx,heq⟩ := h
  cases heq
  refine ⟨rfl,?_⟩
  unfold zvd at hx
  split at hx
  ·rename_i n he
   cases hx
   obtain ⟨fn,a1,a2,a3,a4,a5⟩ := zc9 he
   obtain ⟨c,us1,rfl,hc,hu1⟩ := hu.cons_inv
   obtain rfl := hu1.nil_inv
   obtain rfl := hc.float_inv
   exact ⟨_,key a1 a2 a3 a4 a5 rfl,.pure (.int _ _)⟩
  ·rename_i n he
   cases hx
   obtain ⟨fn,a1,a2,a3,a4,a5⟩ := zc9 he
   obtain ⟨c,us1,rfl,hc,hu1⟩ := hu.cons_inv
   obtain rfl := hu1.nil_inv
   obtain rfl := hc.int_inv
   exact ⟨_,key a1 a2 a3 a4 a5 rfl,.pure (.float _ _)⟩
  ·cases hx
 ·rw [hac] at h
  obtain ⟨x,hx,heq⟩ := h
  cases heq
  refine ⟨rfl,?_⟩
  unfold zzt at hx
  split at hx
  ·rename_i t id sz1 i1 l1 c1 id2 sz2 i2 l2 c2 he
   split at hx
   ·rename_i el ht
    rw [haa] at hx
    obtain ⟨sz,hz,hx⟩ := hx
    split at hx
    ·cases hx
    rename_i hne
    split at hx
    ·rename_i ho1 ho2
     cases hx
     obtain ⟨fn,a1,a2,a3,a4,a5,a6⟩ := zc9 he
     obtain ⟨c,us1,rfl,hc,hu1⟩ := hu.cons_inv
     obtain ⟨c',us2,rfl,hc',hu2⟩ := hu1.cons_inv
     obtain rfl := hu2.nil_inv
     exact ⟨_,key a1 a2 a3 a4 a6 (ziu hs a5 ht hz hne ho1 ho2 hc hc'),.pure (.bool _)⟩
    ·cases hx
   ·cases hx
  ·cases hx
 ·cases h
theorem zht {P : Program} {f : PV → PV → Option PV} {g : Value → Value → Sem Value} (h : ∀ x y z cx cy,f x y = some z → VR ρ F w x cx → VR ρ F w y cy → ∃ u,(g cx cy).run P w = .ok u w ∧ VR ρ F w z u) :
  ∀ (l : List PV) (us : List Value) (x v : PV) (c : Value),zfz f x l = some v → VR ρ F w x c → VRs ρ F w l us → ∃ u,(us.foldlM g c).run P w = .ok u w ∧ VR ρ F w v u
 | [],us,x,v,c,h1,hx,hl => by
   obtain rfl := hl.nil_inv
   simp [zfz] at h1
   subst h1
   exact ⟨c,by simp,hx⟩
 | y :: l,us,x,v,c,h1,hx,hl => by
   obtain ⟨u,us',rfl,hu,hus⟩ := hl.cons_inv
   simp only [zfz,haa] at h1
   obtain ⟨z,h2,h3⟩ := h1
   obtain ⟨q,q1,q2⟩ := h x y z c u h2 hx hu
   obtain ⟨r,r1,r2⟩ := zht h l us' z v q h3 q2 hus
   exact ⟨r,by simp only [List.foldlM_cons,Sem.run_bind,q1,Result.andThen_ok]; exact r1,r2⟩
theorem zki {P : Program} {b : Builtin} {ts : List TypeId} {args : List PV} {v : PV} (h : jd P b ts args = some v) {us : List Value} (hu : VRs ρ F w args us) (ty : TypeId) (cs : Array Bool) :
  ∃ s,builtin b ts.toArray ty cs us.toArray = (do pure (.value (← s))) ∧ ∃ u,s.run P w = .ok u w ∧ VR ρ F w v u := by
 unfold jd at h
 split at h
 ·rename_i t tr x xr
  obtain ⟨cx,us1,rfl,hx,_⟩ := hu.cons_inv
  refine ⟨_,rfl,?_⟩
  split at h
  ·rename_i s hut
   cases h
   obtain rfl := hx.str_inv
   exact ⟨.int .i64 (s.size : Nat),by simp [Builtin.len_,run_underlying hut,goInt],.pure (.int _ _)⟩
  ·rename_i e hut
   cases h
   obtain rfl := hx.nilsl_inv
   exact ⟨.int .i64 0,by simp [Builtin.len_,run_underlying hut,goInt],.pure (.int _ _)⟩
  ·rename_i e f es hut
   cases h
   obtain ⟨_,b,o,sp,k,rfl,_⟩ := hx.psl_inv
   exact ⟨.int .i64 (es.length : Nat),by simp [Builtin.len_,run_underlying hut,goInt],.pure (.int _ _)⟩
  ·rename_i e a1 a2 a3 len a5 hut
   cases h
   obtain ⟨_,_,_,_,_,_,rfl,_⟩ := hx.lsl_inv
   exact ⟨.int .i64 (len : Nat),by simp [Builtin.len_,run_underlying hut,goInt],.pure (.int _ _)⟩
  ·cases h
 ·-- cap
  rename_i t tr x xr
  obtain ⟨cx,us1,rfl,hx,_⟩ := hu.cons_inv
  refine ⟨_,rfl,?_⟩
  split at h
  ·rename_i e hut
   cases h
   obtain rfl := hx.nilsl_inv
   exact ⟨.int .i64 0,by simp [Builtin.cap_,run_underlying hut,goInt],.pure (.int _ _)⟩
  ·rename_i e es hut
   cases h
   obtain ⟨_,b,o,sp,k,rfl,_,_,hf,_⟩ := hx.psl_inv
   obtain rfl := hf rfl
   exact ⟨.int .i64 (es.length : Nat),by simp [Builtin.cap_,run_underlying hut,goInt],.pure (.int _ _)⟩
  ·rename_i e a1 a2 a3 len c hut
   cases h
   obtain ⟨_,_,_,k,_,_,rfl,_,_,hk,_⟩ := hx.lsl_inv
   obtain ⟨rfl,_⟩ := hk c rfl
   exact ⟨.int .i64 (k : Nat),by simp [Builtin.cap_,run_underlying hut,goInt],.pure (.int _ _)⟩
  ·cases h
 ·-- max
  rename_i x r
  obtain ⟨cx,us1,rfl,hvx,hu1⟩ := hu.cons_inv
  refine ⟨_,rfl,?_⟩
  exact zht (g := Builtin.max2) (fun x y z cx cy h hx hy => by
   unfold zsm at h
   split at h
   ·cases h; obtain rfl := hx.int_inv; obtain rfl := hy.int_inv; exact ⟨_,rfl,.pure (.int _ _)⟩
   ·cases h) r us1 x v cx h hvx hu1
 ·-- min
  rename_i x r
  obtain ⟨cx,us1,rfl,hvx,hu1⟩ := hu.cons_inv
  refine ⟨_,rfl,?_⟩
  exact zht (g := Builtin.min2) (fun x y z cx cy h hx hy => by
   unfold zsl at h
   split at h
   ·cases h; obtain rfl := hx.int_inv; obtain rfl := hy.int_inv; exact ⟨_,rfl,.pure (.int _ _)⟩
   ·cases h) r us1 x v cx h hvx hu1
 ·cases h
theorem zh6 {P : Program} (hs : SR ρ F σ w) {b : Builtin} {ts : List TypeId} {args : List PV} {v : PV} {σ' : Store} (h : jo P σ b ts args = some (v,σ')) (hn : ∀ id,σ.next ≤ id → id < σ'.next → ρ id = none)
  {us : List Value} (hu : VRs ρ F w args us) (ty : TypeId) (cs : Array Bool) :
  ∃ s,builtin b ts.toArray ty cs us.toArray = (do pure (.value (← s))) ∧ Res P ρ F σ w σ' v s := by
 unfold jo at h
 split at h
 ·rw [hac] at h
  obtain ⟨z,hz,heq⟩ := h
  cases heq
  obtain ⟨s,h1,h2⟩ := zki hz hu ty cs
  exact ⟨s,h1,.read hs h2⟩
 unfold y7 at h
 split at h
 ·-- append
  rename_i t u s x _
  obtain ⟨cs',us1,rfl,hvs,hu1⟩ := hu.cons_inv
  obtain ⟨cx,us2,rfl,hvx,hu2⟩ := hu1.cons_inv
  obtain rfl := hu2.nil_inv
  refine ⟨_,rfl,?_⟩
  split at h
  ·rename_i el e2 h1 h2
   split at h
   ·cases h
   ·exact zgv hs h1 h2 (.inl ⟨_,rfl⟩) h hn hvs hvx
  ·rename_i el h1 h2
   split at h
   ·exact zgv hs h1 h2 (.inr rfl) h hn hvs hvx
   ·cases h
  ·rename_i el κ h1 h2
   split at h
   ·obtain rfl := hvx.int_inv
    exact zlo hs h1 h2 h hn hvs
   ·cases h
  ·cases h
 ·-- copy
  rename_i t u d s _
  obtain ⟨cd,us1,rfl,hvd,hu1⟩ := hu.cons_inv
  obtain ⟨cx,us2,rfl,hvx,hu2⟩ := hu1.cons_inv
  obtain rfl := hu2.nil_inv
  refine ⟨_,rfl,?_⟩
  split at h
  ·rename_i el e2 h1 h2
   exact zs5 hs h1 h hvd hvx
  ·cases h
 ·-- clear
  rename_i t d _
  obtain ⟨cd,us1,rfl,hvd,hu1⟩ := hu.cons_inv
  obtain rfl := hu1.nil_inv
  refine ⟨_,rfl,?_⟩
  split at h
  ·rename_i el h1
   exact zq4 hs h1 h hvd
  ·cases h
 ·-- delete
  rename_i t u x k _
  obtain ⟨cd,us1,rfl,hvd,hu1⟩ := hu.cons_inv
  obtain ⟨cx,us2,rfl,hvx,hu2⟩ := hu1.cons_inv
  obtain rfl := hu2.nil_inv
  refine ⟨_,rfl,?_⟩
  rw [hac] at h
  obtain ⟨τ,h1,h2⟩ := h
  cases h2
  exact znv h1 hs hvd hvx
 ·cases h
theorem zjm {t : Nat} {env env' : List PV} {σ' : Store} (h : zff t env σ = some (env',σ')) (hs : SR ρ F σ w) {a : Act} (he : EnvR ρ F w env a) :
  ∃ F',Go1 ρ F σ w ρ F' σ' w ∧ SR ρ F' σ' w ∧ EnvR ρ F' w env' a ∧ env'.length = env.length ∧ σ'.next = σ.next := by
 unfold zff at h
 rw [hac] at h
 obtain ⟨σ1,hro,heq⟩ := h
 cases heq
 obtain ⟨r1,r2,r3⟩ := vg _ _ _ hro
 generalize hv : env.getD t .undef = v at hro r2 r3
 let F0 : xx := fun b o => F b o ∨ ∃ id' r ro es,id' ∈ tops v ∧ ρ id' = some r ∧ σ.objs id' = some (.cells ro es) ∧ r.block = b ∧ o < r.sh + r.n * r.sz
 have hF : ∀ b o,F b o → F0 b o := fun b o e => .inl e
 have hold0 : ∀ b o,F0 b o → b < w.heap.size := fun b o e => by
  rcases e with e | ⟨id',r,ro,es,_,hr,ho,rfl,_⟩
  ·exact hs.old b o e
  ·exact zbu hs ⟨id',r,_,hr,ho,rfl⟩
 have hg : Grew w w := ⟨hah _,fun _ _ => rfl,rfl,rfl,rfl⟩
 have hobj : ∀ i,σ'.objs i = σ.objs i ∨ ∃ ro es,σ.objs i = some (.cells ro es) ∧ σ'.objs i = some (.cells es.length es) := fun i => by
  by_cases hid : i ∈ tops v
  ·obtain ⟨ro,es,q1,_,q3⟩ := r2 i hid
   exact .inr ⟨ro,es,q1,q3⟩
  ·exact .inl (r3 i hid)
 have hsub : ∀ i o,σ'.objs i = some o → ∃ o',σ.objs i = some o' := fun i o e => by
  rcases hobj i with h | ⟨ro,es,h,_⟩
  ·exact ⟨o,by rw [← h]; exact e⟩
  ·exact ⟨_,h⟩
 have g : Go1 ρ F σ w ρ F0 σ' w := Go1.of_grew hs hg hF (fun b o e => by
  rcases e with e | ⟨id',r,ro,es,_,hr,ho,rfl,_⟩
  ·exact .inl e
  ·exact .inr (.inr ⟨id',r,_,hr,ho,rfl⟩)) r1 hsub
 have s : SR ρ F0 σ' w := hs.grew hg hF hold0 r1 hobj (fun i r ro es hr ho o hle e => by
  rcases e with e | ⟨id',r',ro',es',hid',hr',ho',hblk,hlt⟩
  ·exact e
  ·exfalso
   by_cases hne : id' = i
   ·subst hne
    rw [hr] at hr'
    cases hr'
    obtain ⟨ro2,es2,q1,_,q3⟩ := r2 id' hid'
    rw [ho] at q3
    cases q3
    obtain ⟨arr,ty,hb,hp,hnn,_⟩ := (hs.obj id' r _ hr q1).cells_inv
    rw [hnn] at hle
    omega
   ·obtain ⟨o2,ho2⟩ := hsub i _ ho
    exact hs.apart id' i r' r _ _ hr' ho' hr ho2 hne hblk) (fun i r kvs hr ho hno o e => by
  rcases e with e | ⟨id',r',ro',es',hid',hr',ho',hblk,hlt⟩
  ·exact e
  ·exfalso
   have hid : σ.objs i = some kvs := by
    rcases hobj i with q | ⟨_,_,_,q⟩
    ·rw [← q]; exact ho
    ·rw [ho] at q; cases q; exact absurd rfl (hno _ _)
   refine hs.apart id' i r' r _ _ hr' ho' hr hid (fun e => ?_) hblk
   rw [e,hid] at ho'
   cases ho'
   exact hno _ _ rfl)
 have hval : VR ρ F w v (a.tmps.getD t undef) := by rw [← hv]; exact he.2 t
 have hfz : VP F0 w (fz zp σ v) (a.tmps.getD t undef) := zfy (Good := fun i => i ∈ tops v) hs hF
  (fun i r ro es hid hr ho => by
   obtain ⟨arr,ty,hb,hp,hnn,hsz,hfit,hrn,hz0,hFF,hcc⟩ := (hs.obj i r _ hr ho).cells_inv
   refine ⟨fun k e hk j x hx => .inr ⟨i,r,ro,es,hid,hr,ho,rfl,?_⟩,fun e hem x hx id' hid' => ?_⟩
   ·have hi : k < r.n := by rw [← hnn]; exact (had.1 hk).1
    have hj : j < r.sz := by rw [← hsz e (haj hk)]; exact (had.1 hx).1
    have := wz hi hj
    omega
   ·obtain ⟨ro',es',q1,q2,_⟩ := r2 i hid
    rw [ho] at q1
    cases q1
    have : x.lf = true := by
     obtain ⟨k,hk⟩ := hau.1 hx
     exact zqm (q2 e hem) k x hk
    rw [zj5 x this] at hid'
    cases hid') zp _ _ hval fun i hi => hi
 refine ⟨F0,g,s,⟨by rw [List.length_set]; exact he.1,fun k => ?_⟩,by simp,r1⟩
 rw [hai]
 by_cases hk : t = k
 ·subst hk
  by_cases hlt : t < env.length
  ·rw [ha3 hlt]
   exact .pure hfz
  ·rw [hbv (by simp; omega)]
   exact .pure (.undef _)
 ·rw [ha5 hk,← hai]
  exact g.vr (he.2 k)
theorem zbc : ∀ (l : List Nat) (env : List PV) (σ : Store) (env' : List PV) (σ' : Store),kp l env σ = some (env',σ') → ∀ (F : xx),SR ρ F σ w → ∀ {a : Act},EnvR ρ F w env a →
  ∃ F',Go1 ρ F σ w ρ F' σ' w ∧ SR ρ F' σ' w ∧ EnvR ρ F' w env' a ∧ env'.length = env.length ∧ σ'.next = σ.next
 | [],env,σ,env',σ',h,F,hs,a,he => by cases h; exact ⟨F,.refl _ _ _ _,hs,he,rfl,rfl⟩
 | t :: l,env,σ,env',σ',h,F,hs,a,he => by
   simp only [kp,haa] at h
   obtain ⟨⟨e1,σ1⟩,h1,h2⟩ := h
   obtain ⟨F1,g1,s1,r1,n1,x1⟩ := zjm h1 hs he
   obtain ⟨F2,g2,s2,r2,n2,x2⟩ := zbc l _ _ _ _ h2 F1 s1 r1
   exact ⟨F2,g1.trans g2,s2,r2,n2.trans n1,x2.trans x1⟩
theorem zok {t : Nat} {env env' : List PV} {σ σ' : Store} (h : zff t env σ = some (env',σ')) : env'.length = env.length ∧ σ'.next = σ.next ∧ ∀ id,(σ'.objs id = none ↔ σ.objs id = none) := by
 unfold zff at h
 rw [hac] at h
 obtain ⟨σ1,hro,heq⟩ := h
 cases heq
 obtain ⟨r1,r2,r3⟩ := vg _ _ _ hro
 refine ⟨by simp,r1,fun i => ?_⟩
 by_cases hid : i ∈ tops (env.getD t .undef)
 ·obtain ⟨ro,es,q1,_,q3⟩ := r2 i hid
  rw [q1,q3]; simp
 ·rw [r3 i hid]
theorem zdn : ∀ (l : List Nat) (env : List PV) (σ : Store) (env' : List PV) (σ' : Store),kp l env σ = some (env',σ') → env'.length = env.length ∧ σ'.next = σ.next ∧ ∀ id,(σ'.objs id = none ↔ σ.objs id = none)
 | [],env,σ,env',σ',h => by cases h; exact ⟨rfl,rfl,fun _ => Iff.rfl⟩
 | t :: l,env,σ,env',σ',h => by
   simp only [kp,haa] at h
   obtain ⟨⟨e1,σ1⟩,h1,h2⟩ := h
   obtain ⟨a1,b1,c1⟩ := zok h1
   obtain ⟨a2,b2,c2⟩ := zdn l _ _ _ _ h2
   exact ⟨a2.trans a1,b2.trans b1,fun id => (c2 id).trans (c1 id)⟩
theorem zpv {cfg : Cfg} {f : FuncId} {id : Nat} {env : List PV} {p : Bool × List PV × Store} (h : pre cfg f id env σ = some p) (hs : SR ρ F σ w) {a : Act} (he : EnvR ρ F w env a) :
  ∃ F',Go1 ρ F σ w ρ F' p.2.2 w ∧ SR ρ F' p.2.2 w ∧ EnvR ρ F' w p.2.1 a ∧ p.2.2.next = σ.next := by
 unfold pre at h
 split at h
 ·cases h; exact ⟨F,.refl _ _ _ _,hs,he,rfl⟩
 ·rw [hac] at h
  obtain ⟨⟨e,s⟩,h1,h2⟩ := h
  cases h2
  obtain ⟨F',g,s',r,_,n⟩ := zbc _ _ _ _ _ h1 F hs he
  exact ⟨F',g,s',r,n⟩
theorem zkj {cfg : Cfg} {f : FuncId} {id : Nat} {env : List PV} {σ : Store} {p : Bool × List PV × Store} (h : pre cfg f id env σ = some p) : p.2.1.length = env.length ∧ p.2.2.next = σ.next ∧ ∀ id,(p.2.2.objs id = none ↔ σ.objs id = none) := by
 unfold pre at h
 split at h
 ·cases h; exact ⟨rfl,rfl,fun _ => Iff.rfl⟩
 ·rw [hac] at h
  obtain ⟨⟨e,s⟩,h1,h2⟩ := h
  cases h2
  exact zdn _ _ _ _ _ h1
end
end Go.Pvm
