import Derived.Test.YtceokplopachgaaP5
import Derived.Shelf.SlIterI.Sorted
/- Part of the proof: a map's keys, sorted by Go's library, told by a word. -/
set_option linter.unusedSimpArgs false
set_option linter.unusedVariables false
namespace Go.Pvm
open Go.Proofs Go.RowKit Go.Maps Go.Shelf
section
variable {P : Program} {ρ : Where} {F : xx} {w : World} {σ : Store}
theorem zfm (hs : SR ρ F σ w) (hn : ρ σ.next = none) {w' : World} (hg : Grew w w') {r0 : Rec} {o : Obj} (hb0 : w.heap.size ≤ r0.block) (hor : OR (ρ.put σ.next r0) F w' r0 o) :
  Go1 ρ F σ w (ρ.put σ.next r0) F (σ.push o) w' ∧ SR (ρ.put σ.next r0) F (σ.push o) w' := by
 have hold : ∀ b,b < w.heap.size → w'.heap[b]? = w.heap[b]? := hg.blk
 have hcell : ∀ b o,F b o → w'.cell? ⟨b,o,none⟩ = w.cell? ⟨b,o,none⟩ := fun b o hF => by simp [World.cell?,hold b (hs.old b o hF)]
 have hrec : ∀ id r,ρ id = some r → ρ.put σ.next r0 id = some r := fun id r hr => by
  unfold Where.put
  rw [if_neg (by rintro rfl; rw [hn] at hr; cases hr)]
  exact hr
 have hput : ∀ id r,ρ.put σ.next r0 id = some r → (id = σ.next ∧ r = r0) ∨ (id ≠ σ.next ∧ ρ id = some r) := fun id r e => by
  unfold Where.put at e
  split at e
  ·cases e; exact .inl ⟨by assumption,rfl⟩
  ·exact .inr ⟨by assumption,e⟩
 have hobj : ∀ id q,(σ.push o).objs id = some q → (id = σ.next ∧ q = o) ∨ (id ≠ σ.next ∧ σ.objs id = some q) := fun id q e => by
  simp only [Store.push] at e
  split at e
  ·cases e; exact .inl ⟨by assumption,rfl⟩
  ·exact .inr ⟨by assumption,e⟩
 have hblk : ∀ id r o,ρ id = some r → σ.objs id = some o → r.block < w.heap.size := fun id r o hr ho => (hs.obj id r o hr ho).in_
 have hmono : ∀ {v : PV} {c : Value},VR ρ F w v c → VR (ρ.put σ.next r0) F w' v c := fun h => h.mono hrec (fun _ _ e => e) hcell
 have hGo : Go1 ρ F σ w (ρ.put σ.next r0) F (σ.push o) w' := by
  refine ⟨hrec,fun id r e e0 => ?_,by simp [Store.push],fun _ _ e => e,hcell,hg.size,fun b hb _ => hold b hb,fun _ _ e => .inl e,fun b hl => ?_,hg.os,hg.tape,hg.out⟩
  ·rcases hput id r e with ⟨rfl,_⟩ | ⟨_,e1⟩
   ·simp [Store.push]
   ·rw [e0] at e1; cases e1
  ·obtain ⟨id,r,q,e1,e2,rfl⟩ := hl
   rcases hput id r e1 with ⟨rfl,rfl⟩ | ⟨hne,e1⟩
   ·exact .inl hb0
   ·rcases hobj id q e2 with ⟨rfl,_⟩ | ⟨_,e2⟩
    ·exact absurd rfl hne
    ·exact .inr ⟨id,r,q,e1,e2,rfl⟩
 refine ⟨hGo,fun id r q e1 e2 => ?_,fun id id' r r' q q' e1 e2 e3 e4 hne => ?_,fun b k hF => hao (hs.old b k hF) hGo.size,fun id hid => ?_⟩
 ·rcases hput id r e1 with ⟨rfl,rfl⟩ | ⟨hne,e1⟩
  ·rcases hobj _ q e2 with ⟨_,rfl⟩ | ⟨hne,_⟩
   ·exact hor
   ·exact absurd rfl hne
  ·rcases hobj id q e2 with ⟨rfl,_⟩ | ⟨_,e2⟩
   ·exact absurd rfl hne
   ·exact (hs.obj id r q e1 e2).alike (hold _ (hblk id r q e1 e2)) hmono fun _ e => e
 ·rcases hput id r e1 with ⟨rfl,rfl⟩ | ⟨hn1,e1⟩
  ·rcases hput id' r' e3 with ⟨rfl,_⟩ | ⟨hn2,e3⟩
   ·exact absurd rfl hne
   ·rcases hobj id' q' e4 with ⟨rfl,_⟩ | ⟨_,e4⟩
    ·exact absurd rfl hn2
    ·have := hblk _ _ _ e3 e4
     omega
  ·rcases hobj id q e2 with ⟨rfl,_⟩ | ⟨_,e2⟩
   ·exact absurd rfl hn1
   ·have hlt := hblk _ _ _ e1 e2
    rcases hput id' r' e3 with ⟨rfl,rfl⟩ | ⟨hn2,e3⟩
    ·omega
    ·rcases hobj id' q' e4 with ⟨rfl,_⟩ | ⟨_,e4⟩
     ·exact absurd rfl hn2
     ·exact hs.apart id id' r r' q q' e1 e2 e3 e4 hne
 ·simp only [Store.push] at hid ⊢
  rw [if_neg (by omega)]
  exact hs.new id (by omega)
theorem zn7 (w : World) (o : Go.Obj) : Grew w (w.alloc o) := by
 obtain ⟨h1,h2⟩ := MapKept.heap_alloc w o
 refine ⟨?_,fun b hb => h2 b hb,rfl,rfl,rfl⟩
 have e : (w.alloc o).heap = w.heap.push o := rfl
 rw [e]; simp
theorem zn6 {w' : World} (h : Below w.heap.size w w') : Grew w w' := ⟨h.size,h.block,h.os,h.tape,h.output⟩
theorem zqp {ν : Go.Shelf.Ren} (L : SlLaysZI.n7 P ν) : ToldOk P (ν.f 7) (zqo (ν.f 10)) where
 ok := by
  intro args σ v σ' h ρ F w us hs hu hn
  unfold zqo at h
  split at h
  ·rename_i id
   cases h
   obtain ⟨c,us1,rfl,hc,hu1⟩ := hu.cons_inv
   obtain rfl := hu1.nil_inv
   obtain ⟨r,hr,rfl⟩ := hc.mref_inv
   have hn0 := hn σ.next (hah _) (haw _)
   have cK := callsIn_wide.1 (AnyZI.keys_in L Fence.wide 5 trivial rfl (some r.block) w)
   refine cK.mono fun e w' ⟨h1,h2⟩ => ?_
   subst h2
   have hg := zn7 w (.cells #[.map (some r.block)] (ν.t 23))
   have hne : id ≠ σ.next := fun e => by rw [e,hn0] at hr; cases hr
   have hnew := (MapKept.heap_alloc w (.cells #[.map (some r.block)] (ν.t 23))).1
   obtain ⟨g,s⟩ := zfm (r0 := ⟨w.heap.size,0,1,1,1⟩) (o := .mbox id) hs hn0 hg (hah _) (.mbox id r.block (ν.t 23) (.mref id r (by rw [zpt _ hne]; exact hr)) hnew rfl fun o hF => Nat.lt_irrefl _ (hs.old _ _ hF))
   exact ⟨_,_,_,h1,g,s,.func' (us := [.pointer (some ⟨w.heap.size,0,none⟩)]) (.one (.ref σ.next 0 0 ⟨w.heap.size,0,1,1,1⟩ (zas _ _)))⟩
  ·cases h
 next := by
  intro args σ v σ' h
  unfold zqo at h
  split at h
  ·cases h; exact hbd _
  ·cases h
 clean := by
  intro args σ v σ' h hc
  unfold zqo at h
  split at h
  ·cases h; exact hc.push _
  ·cases h
theorem ze5 {H : Type} (x : Lit × DataW H) : ∀ l,(DataW.insert x l).Perm (x :: l)
 | [] => .refl _
 | y :: l => by
   unfold DataW.insert
   split
   ·exact .refl _
   ·exact ((ze5 x l).cons y).trans (.swap x y l)
theorem zdk {H : Type} : ∀ l : List (Lit × DataW H),(l.foldr DataW.insert []).Perm l
 | [] => .refl _
 | x :: l => (ze5 x _).trans ((zdk l).cons x)
theorem ze3 : ∀ {kvs : List (PV × PV)} {l : List Int},zdj kvs = some l → l.length = kvs.length ∧ ∀ (i : Nat) (p : PV × PV),kvs[i]? = some p → ∃ n,p.1 = .int .i64 n ∧ l[i]? = some n ∧ -9223372036854775808 ≤ n ∧ n ≤ 9223372036854775807
 | [],l,h => by cases h; exact ⟨rfl,fun i p h => by simp at h⟩
 | p :: kvs,l,h => by
   unfold zdj at h
   split at h
   ·rename_i heq; cases heq
   ·rename_i n q r heq
    cases heq
    split at h
    ·rename_i hb
     rw [hac] at h
     obtain ⟨l',h1,rfl⟩ := h
     obtain ⟨q1,q2⟩ := ze3 h1
     refine ⟨by simp [q1],fun i p hp => ?_⟩
     cases i with
     | zero => cases hp; exact ⟨n,rfl,rfl,hb⟩
     | succ i => simpa using q2 i p (by simpa using hp)
    ·cases h
   ·cases h
theorem zkc {ν ν2 ν3 : Go.Shelf.Ren} (L : SlLaysZI.n6 P ν) (L2 : SlLaysZI.n10 P ν2) (Ly : Lays.n189 P ν3) (h9 : ν3.f 189 = ν.f 9) (e9 : ∀ args w,(callFunc (ν.f 9) args).run P w = .ok (.enter (ν.f 9) args) w) : ToldOk P (ν.f 6) (zbm (ν2.f 10)) where
 ok := by
  intro args σ v σ' h ρ F w us hs hu hn
  unfold zbm at h
  split at h
  rotate_left
  ·cases h
  rename_i f b
  split at h
  rotate_left
  ·cases h
  rename_i hf
  subst hf
  split at h
  rotate_left
  ·cases h
  rename_i id hob
  split at h
  rotate_left
  ·cases h
  rename_i kvs hom
  split at h
  rotate_left
  ·cases h
  rename_i hlen
  rw [hac] at h
  obtain ⟨l,hl,h⟩ := h
  obtain ⟨c,us1,rfl,hc,hu1⟩ := hu.cons_inv
  obtain rfl := hu1.nil_inv
  obtain ⟨us2,rfl,hv2⟩ := hc.func_inv
  obtain ⟨cb,us3,rfl,hcb,hu3⟩ := hv2.cons_inv
  obtain rfl := hu3.nil_inv
  obtain ⟨rb,hrb,rfl⟩ := hcb.ref_inv
  have hbox : ∃ bm ty,VR ρ F w (.mref id) (.map (some bm)) ∧ w.heap[rb.block]? = some (.cells #[.map (some bm)] ty (0,0)) ∧ rb.sh = 0 := by
   cases hs.obj b rb _ hrb hob with
   | mbox _ bm ty hv hb hsh hF => exact ⟨bm,ty,hv,hb,hsh⟩
  obtain ⟨bm,ty,hvm,hbb,hsh⟩ := hbox
  obtain ⟨r,hr,hbm⟩ := hvm.mref_inv
  cases hbm
  obtain ⟨es,clock,hb,hst,hes,hF,hcs⟩ := (hs.obj id r _ hr hom).map_inv
  obtain ⟨k1,k2⟩ := ze3 hl
  have hk64 := L2.t26
  have hent : ∀ x ∈ es.toList,∃ n : Int,x.key = .int .i64 n ∧ (Lit.int .i64 n).wf = true := fun x hx => by
   obtain ⟨i,hi⟩ := hau.1 hx
   have hil : i < kvs.length := by have := (had.1 hi).1; simp at this; omega
   obtain ⟨e,q1,q2,q3⟩ := hcs i _ (haf hil)
   rw [hay,q1] at hi
   cases hi
   obtain ⟨n,p1,p2,p3⟩ := k2 i _ (haf hil)
   rw [p1] at q2
   refine ⟨n,q2.int_inv,?_⟩
   have h63 : (2 : Int) ^ 63 = 9223372036854775808 := by decide
   simp [Lit.wf,IntKind.min,IntKind.max,IntKind.signed,IntKind.bits,h63]
   omega
  obtain ⟨R,hR⟩ : ∃ R : Value → Option (DataW Unit × List MemPlace),∀ x,R x = some (.nil,[]) := ⟨fun _ => some (.nil,[]),fun _ => rfl⟩
  have hrd : ∀ x ∈ es.toList,∃ n : Int,x.key = .int .i64 n ∧ Go.WideElems.rd P (ν2.t 26) R x = some (.int .i64 n,.nil) := fun x hx => by
   obtain ⟨n,q1,q2⟩ := hent x hx
   refine ⟨n,q1,?_⟩
   unfold Go.WideElems.rd
   rw [q1,keyOf_int_mk hk64 q2,hR]
   rfl
  have hfit : Go.WideElems.Fit P (ν2.t 26) R es clock := ⟨by unfold maxLen; omega,hst,fun x hx => let ⟨n,_,q⟩ := hrd x hx; ⟨_,q⟩⟩
  obtain ⟨D,hD⟩ : ∃ D : DataW Unit,D = .map ((es.toList.map (Go.WideElems.rg P (ν2.t 26) R)).foldr DataW.insert []) := ⟨_,rfl⟩
  have hown : w.ownsMap P (ν2.t 26) R r.block es.size D := ⟨es,clock,hb,hfit,hah _,hD⟩
  have hll : (es.toList.map (Go.WideElems.rg P (ν2.t 26) R)).map (fun p => intOf p.1) = l := by
   apply List.ext_getElem?
   intro i
   rw [List.map_map,hav,hay]
   rcases ha4 i kvs.length with hi | hi
   ·obtain ⟨e,q1,q2,q3⟩ := hcs i _ (haf hi)
    obtain ⟨n,p1,p2,p3⟩ := k2 i _ (haf hi)
    rw [p1] at q2
    obtain ⟨m,z1,z2⟩ := hrd e (Array.mem_toList_iff.2 (Array.mem_of_getElem? q1))
    have := q2.int_inv
    rw [z1] at this
    cases this
    rw [q1,p2]
    simp only [Option.map_some,Function.comp,Go.WideElems.rg_of z2]
    rfl
   ·rw [Array.getElem?_eq_none (by omega),hbv (by omega)]; rfl
  have hperm : l.Perm (intKeys D) := by
   rw [hD,← hll]
   exact ((zdk _).symm).map _
  have hsize : Maps.size D = l.length := by
   rw [hperm.length_eq,hD]
   show _ = (List.map _ _).length
   rw [han]; rfl
  have hblk : rb.block < w.heap.size := (hbg.1 hbb).1
  have hseq := AnyZI.keys_gives L2 Fence.wide 2 trivial rfl (by omega) rb.block r.block es.size D (R := R) w hblk (by simp [World.cell?,hbb]) hown
  have hsort : ∀ m,AnyZI.SortsIn P ν Fence.wide m := fun m => ⟨fun blk off cap ss W hH hbk hsz => callsIn_wide.2 (h9 ▸ Any.slices_Sort_int Ly blk off cap ss W hH hbk hsz),fun p cap W => callsIn_wide.2 (h9 ▸ Any.slices_Sort_int_none Ly p cap W)⟩
  have cS := callsIn_wide.1 (AnyZI.sorted_in L Fence.wide 5 trivial trivial trivial trivial rfl (by omega) (hsort _) e9 (ν2.f 10) #[.pointer (some ⟨rb.block,0,none⟩)] trivial (L2.f10.enters rfl) _ (Maps.size D) (by rw [hsize,k1]; unfold maxLen; omega) (by rw [hsize,k1]; omega) w hseq)
  rw [show rb.sh + 0 * rb.sz + 0 = 0 by rw [hsh]; omega]
  refine cS.mono fun e w' ⟨vc,ss,h1,hS,hrow,hnil,hbel⟩ => ?_
  have hms := mergeSort_of_perm_i (hS.trans hperm.symm)
  have hsl : ss.length = l.length := (hS.trans hperm.symm).length_eq
  have hg := zn6 hbel
  split at h
  ·rename_i h0
   cases h
   have hss : ss = [] := ha1 (by omega)
   exact ⟨vc,ρ,F,h1,Go1.of_grew hs hg (fun _ _ e => e) (fun _ _ e => .inl e) rfl (fun _ o e => ⟨o,e⟩),hs.grew hg (fun _ _ e => e) (fun b o e => hao (hs.old b o e) hg.size) rfl (fun _ => .inl rfl) (fun _ _ _ _ _ _ _ _ e => e) (fun _ _ _ _ _ _ _ e => e),by rw [hnil.2 hss]; exact .pure .nilsl⟩
  ·rename_i h0
   cases h
   have hn0 := hn σ.next (hah _) (haw _)
   rcases hrow.2 with ⟨rfl,hz⟩ | ⟨gb,cap,cur,rfl,hbase,hgb,r1,r2,r3,r4⟩
   ·omega
   ·have hmsl : (l.mergeSort fun x y => decide (x ≤ y)).length = l.length := List.length_mergeSort _
    have hms' : (ss.mergeSort fun x y => decide (x ≤ y)) = l.mergeSort fun x y => decide (x ≤ y) := hms
    rw [hms'] at r4
    generalize (l.mergeSort fun x y => decide (x ≤ y)) = m at r4 hmsl ⊢
    obtain ⟨g,s⟩ := zfm (r0 := ⟨gb,0,1,l.length,cap⟩) (o := .cells 0 (m.map jr)) hs hn0 hg hbase (.cells 0 _ cur (ν.t 26) hgb (by rw [r3]; show _ = cap; omega) (by rw [han]; exact hmsl) (fun e he => by obtain ⟨x,_,rfl⟩ := List.mem_map.1 he; rfl) (by show 0 + l.length * 1 ≤ cap; omega) (hbe _) (Nat.succ_pos 0) (fun o _ hF' => by have h8 := hs.old _ o hF'; have h9 : w.heap.size ≤ gb := hbase; have h10 : gb < w.heap.size := h8; omega) (fun i e he j x hx => by
     rw [hav,hac] at he
     obtain ⟨n,hni,rfl⟩ := he
     have hj : j = 0 := by have := (had.1 hx).1; simpa [jr] using this
     subst hj
     cases hx
     have hil := (had.1 hni).1
     refine ⟨.int .i64 n,?_,.pure (.int _ _)⟩
     have h7 : (cur.toList.take (ss.length * 1))[i]? = some (.int .i64 n) := by rw [r4,hav,hni]; rfl
     rw [List.getElem?_take_of_lt (by omega),hay] at h7
     rw [show 0 + i * 1 + 0 = i by omega]
     exact h7))
    refine ⟨_,_,_,h1,g,s,?_⟩
    rw [hsl]
    exact .lsl σ.next 0 l.length none ⟨gb,0,1,l.length,cap⟩ gb 0 cap (zas _ _) (fun _ => ⟨rfl,by show 0 = 0 + 0 * 1; omega⟩) (by omega) (fun k hk => by cases hk) (fun _ => by show l.length ≤ 0 + cap; omega) (by show 0 + (0 + cap) * 1 ≤ cap; omega) (by show 0 + l.length ≤ l.length; omega)
 next := by
  intro args σ v σ' h
  unfold zbm at h
  repeat' split at h
  all_goals first | (cases h; done) | skip
  rw [hac] at h
  obtain ⟨l,_,h⟩ := h
  split at h
  ·cases h; exact hah _
  ·cases h; exact hbd _
 clean := by
  intro args σ v σ' h hc
  unfold zbm at h
  repeat' split at h
  all_goals first | (cases h; done) | skip
  rw [hac] at h
  obtain ⟨l,_,h⟩ := h
  split at h
  ·cases h; exact hc
  ·cases h; exact hc.push _
end
end Go.Pvm
