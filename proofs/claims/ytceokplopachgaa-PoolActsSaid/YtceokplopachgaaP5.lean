import Derived.Test.YtceokplopachgaaP4
import Derived.Shelf.Sort.Plain
import Derived.Shelf.Slices.In.SortNone
/- Part of the proof: inserting into a slice, told by a word: what the library's function does with any room there is. -/
set_option linter.unusedSimpArgs false
set_option linter.unusedVariables false
namespace Go.Pvm
section
variable {P : Program} {ρ ρ' : Where} {F F' : xx} {w w' : World} {σ σ' : Store}
end
end Go.Pvm
namespace Go.Pvm
section
variable {P : Program} {t el : TypeId} {sz by_ : Nat} {σ : Store}
theorem z78 (n : Nat) (d : Nat) : xi (some (.int .i64 (n : Nat))) d = some n := by simp [xi]
end
end Go.Pvm
namespace Go.Pvm
open Go.Proofs
section
variable {P : Program} {ρ : Where} {F : xx} {w : World} {σ : Store}
theorem ze4 : ∀ {es : List (List PV)} {l : List Int},zad es = some l → es = l.map jr
 | [],l,h => by cases h; rfl
 | e :: es,l,h => by
   unfold zad at h
   split at h
   ·rename_i heq; cases heq
   ·rename_i n r heq
    cases heq
    rw [hac] at h
    obtain ⟨l',h1,rfl⟩ := h
    rw [List.map_cons,← ze4 h1]; rfl
   ·cases h
theorem zem {id : Nat} {o : Obj} (h : σ.objs id = some o) : σ.put id o = σ := by
 obtain ⟨n,f⟩ := σ
 unfold Store.put
 congr 1
 funext i
 by_cases e : i = id
 ·subst e; simp only [if_true]; exact h.symm
 ·simp [e]
theorem zrr (l : List Int) : VRs ρ F w (l.map jr).flatten (l.map (Value.int .i64)) := by
 have e : (l.map jr).flatten = l.map (fun n => PV.int .i64 n) := by
  induction l with
  | nil => rfl
  | cons n l ih => rw [List.map_cons,List.flatten_cons,ih]; rfl
 rw [e]
 refine ⟨by simp,fun i c u h1 h2 => ?_⟩
 rw [hav,hac] at h1 h2
 obtain ⟨n,a1,rfl⟩ := h1
 obtain ⟨m,a2,rfl⟩ := h2
 rw [a1] at a2
 cases a2
 exact .pure (.int _ _)
theorem zpf {ν : Go.Shelf.Ren} (Ly : Lays.n189 P ν) : ToldOk P (ν.f 189) zg0 where
 ok := by
  intro args σ v σ' h ρ F w us hs hu hn
  unfold zg0 at h
  split at h
  ·cases h
   obtain ⟨c,us1,rfl,hc,hu1⟩ := hu.cons_inv
   obtain rfl := hu1.nil_inv
   obtain rfl := hc.nilsl_inv
   exact (Any.slices_Sort_int_none Ly none 0 w).mono fun e w' ⟨h1,h2⟩ => ⟨_,ρ,F,h1,by rw [h2]; exact .refl _ _ _ _,by rw [h2]; exact hs,zbh⟩
  ·rename_i id idx len cap
   obtain ⟨c,us1,rfl,hc,hu1⟩ := hu.cons_inv
   obtain rfl := hu1.nil_inv
   split at h
   rotate_left
   ·cases h
   rename_i ro es ho
   split at h
   rotate_left
   ·cases h
   rename_i hh
   obtain ⟨hro,hle,hlen⟩ := hh
   rw [hac] at h
   obtain ⟨l,hl,heq⟩ := h
   cases heq
   obtain ⟨r,b,o,c,hr,hrs,rfl,hab,hlc,hkk,hkn,hph,hinn⟩ := hc.lsl_inv
   have hrows := ze4 hl
   have hll : l.length = len := by
    have : ((es.drop idx).take len).length = (l.map jr).length := by rw [hrows]
    rw [ha7,List.length_drop,han] at this
    omega
   rcases Nat.eq_zero_or_pos len with h0 | h0
   ·subst h0
    have : l = [] := ha1 hll
    subst this
    refine (Any.slices_Sort_int_none Ly (some ⟨b,o,none⟩) c w).mono fun e w' ⟨h1,h2⟩ => ⟨_,ρ,F,h1,?_,?_,zbh⟩
    ·rw [h2]
     rw [show (es.take idx ++ (([] : List Int).mergeSort fun x y => decide (x ≤ y)).map jr ++ es.drop (idx + 0)) = es by simp,zem ho]
     exact .refl _ _ _ _
    ·rw [h2]
     rw [show (es.take idx ++ (([] : List Int).mergeSort fun x y => decide (x ≤ y)).map jr ++ es.drop (idx + 0)) = es by simp,zem ho]
     exact hs
   ·obtain ⟨rfl,rfl⟩ := hab (by omega)
    obtain ⟨arr,ty,hb,hp,hnn,hes,hfit,hrn,hz0,hF,hcc⟩ := (hs.obj id r _ hr ho).cells_inv
    have hcell : ∀ j,j < l.length → w.cell? ⟨r.block,r.sh + idx * r.sz + j,none⟩ = some (Value.int .i64 l[j]!) := fun j hj => by
     have he : es[idx + j]? = some (jr l[j]!) := by
      have : ((es.drop idx).take len)[j]? = some (jr l[j]!) := by
       rw [hrows,hav,haf hj,getElem!_pos l j hj]; rfl
      rw [List.getElem?_take_of_lt (by omega),hbp] at this
      exact this
     obtain ⟨x,q1,q2⟩ := hcc _ _ he 0 (.int .i64 l[j]!) rfl
     obtain rfl := q2.int_inv
     have e9 : r.sh + (idx + j) * r.sz + 0 = r.sh + idx * r.sz + j := by rw [← hrs]; omega
     rw [e9] at q1
     simp [World.cell?,hb,q1]
    have hH : Go.Sort.Holds (Value.int .i64) w r.block (r.sh + idx * r.sz) l.toArray := fun j hj => by
     have hj' : j < l.length := by simpa using hj
     refine ⟨?_,by simp [World.frozen?,hb]⟩
     rw [hcell j hj']
     simp
    have hblk : r.block < w.heap.size := zbu hs ⟨id,r,_,hr,ho,rfl⟩
    rw [← hll]
    refine (Any.slices_Sort_int Ly r.block (r.sh + idx * r.sz) c l w hH hblk (by omega)).mono fun e w' ⟨h1,n,os,h2⟩ => ?_
    have hsl : (l.mergeSort fun x y => decide (x ≤ y)).length = len := by rw [List.length_mergeSort,hll]
    generalize hms : (l.mergeSort fun x y => decide (x ≤ y)) = m at h2 hsl ⊢
    obtain ⟨hend,g,s⟩ := vz hs hr ho (idx := idx) (new := m.map jr) (us := m.map (Value.int .i64)) (fun e he => by obtain ⟨x,_,rfl⟩ := List.mem_map.1 he; exact hrs) (zrr m) (by rw [han]; omega) hro hb
    have hse : kr es idx (m.map jr) = es.take idx ++ m.map jr ++ es.drop (idx + l.length) := by
     unfold kr
     rw [han,hsl,hll]
    rw [hse] at g s
    have hul : (m.map (Value.int .i64)).length = len := by rw [han,hsl]
    have hbl : (w.setRow r.block (laid arr (r.sh + idx * r.sz) (m.map (Value.int .i64)))).heap[r.block]? = some (.cells (laid arr (r.sh + idx * r.sz) (m.map (Value.int .i64))) ty (0,0)) := setRow_heap w r.block arr _ ty (0,0) hb
    have hsz : (w.setRow r.block (laid arr (r.sh + idx * r.sz) (m.map (Value.int .i64)))).heap.size = w.heap.size := by unfold World.setRow; simp
    have hgr : Grew (w.setRow r.block (laid arr (r.sh + idx * r.sz) (m.map (Value.int .i64)))) w' := by
     subst h2
     refine ⟨?_,fun k hk => ?_,rfl,rfl,rfl⟩
     ·rw [hsz]
      simp [Go.Sort.grow,Go.Sort.putRow,Go.Sort.mapBlock,Go.Sort.ahead]
     ·rw [hsz] at hk
      have e1 : (Go.Sort.grow (Go.Sort.putRow (Value.int .i64) (Go.Sort.ahead w n) r.block (r.sh + idx * r.sz) m.toArray) os).heap[k]? = (w.heap.modify r.block (Go.Sort.onCells (Go.Sort.putCells (Value.int .i64) (r.sh + idx * r.sz) m.toArray)))[k]? := by
       unfold Go.Sort.grow Go.Sort.putRow Go.Sort.mapBlock Go.Sort.ahead
       simp only
       rw [Array.getElem?_append_left (by simpa using hk)]
      rw [e1,Array.getElem?_modify]
      by_cases e : r.block = k
      ·subst e
       rw [if_pos rfl,hb,hbl]
       simp only [Option.map_some,Go.Sort.onCells]
       congr 2
       apply Array.ext_getElem?
       intro j
       unfold Go.Sort.putCells
       rw [Array.getElem?_mapIdx]
       have hsz2 : m.toArray.size = len := by simp [hsl]
       rw [hsz2,zci hend j,hul]
       rcases ha4 j (r.sh + idx * r.sz) with h3 | h3
       ·rw [if_pos h3]
        cases arr[j]? with
        | none => rfl
        | some x => simp only [Option.map_some]; rw [if_neg (by omega)]
       ·rw [if_neg (by omega)]
        rcases ha4 j (r.sh + idx * r.sz + len) with h4 | h4
        ·have hj : j < arr.size := by omega
         have hjm : j - (r.sh + idx * r.sz) < m.length := by omega
         rw [if_pos h4,Array.getElem?_eq_getElem hj,Option.map_some,if_pos ⟨h3,h4⟩,hav,haf hjm,Option.map_some]
         simp [hjm]
        ·rw [if_neg (by omega)]
         cases arr[j]? with
         | none => rfl
         | some x => simp only [Option.map_some]; rw [if_neg (by omega)]
      ·rw [if_neg e,setRow_other w r.block k _ (fun h => e h.symm)]
    refine ⟨_,ρ,F,h1,g.trans (Go1.of_grew s hgr (fun _ _ e => e) (fun _ _ e => .inl e) rfl (fun _ o e => ⟨o,e⟩)),s.grew hgr (fun _ _ e => e) (fun b o e => hao (s.old b o e) hgr.size) rfl (fun _ => .inl rfl) (fun _ _ _ _ _ _ _ _ e => e) (fun _ _ _ _ _ _ _ e => e),zbh⟩
  ·cases h
 next := by
  intro args σ v σ' h
  unfold zg0 at h
  split at h
  ·cases h; exact hah _
  ·split at h
   ·split at h
    ·rw [hac] at h
     obtain ⟨l,_,heq⟩ := h
     cases heq; exact hah _
    ·cases h
   ·cases h
  ·cases h
 clean := by
  intro args σ v σ' h hc
  unfold zg0 at h
  split at h
  ·cases h; exact hc
  ·split at h
   ·rename_i ho
    split at h
    ·rw [hac] at h
     obtain ⟨l,_,heq⟩ := h
     cases heq; exact hc.put ho
    ·cases h
   ·cases h
  ·cases h
end
end Go.Pvm
