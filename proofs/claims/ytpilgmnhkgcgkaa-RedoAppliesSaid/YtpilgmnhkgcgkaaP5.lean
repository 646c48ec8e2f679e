import Derived.Test.YtpilgmnhkgcgkaaP4
import Derived.Shelf.Sort.Plain
import Derived.Shelf.Slices.In.SortNone
/- Part of the proof: inserting into a slice, told by a word: what the library's function does with any room there is. -/
set_option linter.unusedSimpArgs false
set_option linter.unusedVariables false
namespace Go.Pvm
section
variable {P : Program} {ρ ρ' : Where} {F F' : Froz} {w w' : World} {σ σ' : Store}

/-- What the function's text comes to, where the room is known. -/
structure InsRuns (P : Program) (t : TypeId) (C : CallO) (f : FuncId) : Prop where
  ok : CallOk P C
  nil : ∀ {el sz by_}, P.underlying t = some (.slice el) → El P el sz by_ → ∀ {σ : Store} {x : PV} {new : List (List PV)} {id2 sz2 idx2 m : Nat} {cap2 : Option Nat}, x = .lsl id2 sz2 idx2 m cap2 → elemsOf σ x = some new → all1 sz new = true → m = new.length → m ≠ 0 → m * by_ ≤ 140737488355328 →
    C f [.nilsl, .int .i64 0, x] σ = some (.lsl σ.next sz 0 m none, σ.push (.cells 0 new))
  grow : ∀ {el sz by_}, P.underlying t = some (.slice el) → El P el sz by_ → ∀ {σ : Store} {x : PV} {new es rest : List (List PV)} {id id2 sz2 idx2 m c i : Nat} {cap2 : Option Nat}, x = .lsl id2 sz2 idx2 m cap2 → elemsOf σ x = some new → all1 sz new = true → m = new.length → m ≠ 0 →
    id ≠ id2 → id < σ.next → id2 < σ.next → σ.objs id = some (.cells 0 (es ++ rest)) → all1 sz es = true → rest.length = c - es.length → es.length ≤ c → c < es.length + m → i ≤ es.length → (es.length + m) * by_ ≤ 140737488355328 →
    C f [.lsl id sz 0 es.length (some c), .int .i64 (i : Nat), x] σ = some (.lsl σ.next sz 0 (es.length + m) none, σ.push (.cells 0 (es.take i ++ new ++ es.drop i)))
  room : ∀ {el sz by_}, P.underlying t = some (.slice el) → El P el sz by_ → ∀ {σ : Store} {x : PV} {new es rest : List (List PV)} {id id2 sz2 idx2 m c i : Nat} {cap2 : Option Nat}, x = .lsl id2 sz2 idx2 m cap2 → elemsOf σ x = some new → all1 sz new = true → m = new.length → m ≠ 0 →
    id ≠ id2 → id < σ.next → id2 < σ.next → σ.objs id = some (.cells 0 (es ++ rest)) → all1 sz es = true → (∀ e ∈ rest, e.length = sz) → rest.length = c - es.length → es.length + m ≤ c → i ≤ es.length → (es.length + m) * by_ ≤ 140737488355328 →
    ∃ cap, C f [.lsl id sz 0 es.length (some c), .int .i64 (i : Nat), x] σ = some (.lsl id sz 0 (es.length + m) cap, σ.put id (.cells 0 ((es.take i ++ new ++ es.drop i) ++ rest.drop m)))

theorem insert_told {t : TypeId} {C : CallO} {f : FuncId} (H : InsRuns P t C f) : ToldOk P f (insertv P t) where
  ok := by
    intro args σ v σ' h ρ F w us hs hu hn
    obtain ⟨s, i, id2, sz2, idx2, m, cap2, el, sz, by_, z, ro2, es2, rfl, ht, hsz, hby, hz, h0, h1, hzk, hzl, hm, ho2, hle, hp2, hcase⟩ := insertv_inv h
    have E : El P el sz by_ := ⟨hsz, hby, ⟨z, hz, hzk, hzl⟩, h0, h1⟩
    have hp2' := rowsPl_mem hp2
    have hid2 := obj_lt hs ho2
    have hnewsub : ∀ e ∈ (es2.drop idx2).take m, e ∈ es2 := fun e he => List.mem_of_mem_drop (List.mem_of_mem_take he)
    have hnew1 := rowsPl_sub hp2 hnewsub
    have hnl : ((es2.drop idx2).take m).length = m := by rw [List.length_take, List.length_drop]; omega
    rcases hcase with ⟨rfl, rfl, hb, heq⟩ | ⟨id, len, cap, es0, rfl, ho, hne, hi0, hi, hle0, hpe0, hb, heq⟩
    · cases heq
      have hx : elemsOf σ (.lsl id2 sz2 idx2 m cap2) = some ((es2.drop idx2).take m) := by simp only [elemsOf, ho2, if_pos hle]
      exact H.ok f _ σ _ _ (H.nil ht E rfl hx (rowsPl_all1 hnew1) hnl.symm hm hb) ρ F w us hs hu hn
    · cases heq
      obtain ⟨es, hes⟩ : ∃ es, es = es0.take len := ⟨_, rfl⟩
      rw [← hes]
      have hpe : rowsPl sz es = true := by rw [hes]; exact rowsPl_sub hpe0 fun e he => List.mem_of_mem_take he
      have hle1 : len = es.length := by rw [hes, List.length_take]; omega
      have ho : σ.objs id = some (.cells 0 (es ++ es0.drop len)) := by rw [hes, List.take_append_drop]; exact ho
      clear hes hle0 hpe0
      subst hle1
      obtain ⟨cs, us1, rfl, hvs, hu1⟩ := hu.cons_inv
      obtain ⟨ci, us2, rfl, hvi, hu2⟩ := hu1.cons_inv
      obtain ⟨cx, us3, rfl, hvx, hu3⟩ := hu2.cons_inv
      obtain rfl := hu3.nil_inv
      obtain rfl := hvi.int_inv
      have hid := obj_lt hs ho
      have hpe' := rowsPl_mem hpe
      have hn0 := hn σ.next (Nat.le_refl _) (Nat.lt_succ_self _)
      obtain ⟨r, b, o, c, hr, hrs, rfl, hab, hlc, hkk, hkn, hph, hinn⟩ := hvs.lsl_inv
      subst hrs
      rw [Nat.zero_add] at hph
      have hop := open_sr hs hne hr ho ho2 (fun e he => (hpe' e he).2) hlc hph (fun ro3 es3 e3 => by cases e3; exact fun e he => (hp2' e he).2) (fun kvs e => by cases e) (fun q e => by cases e)
      generalize hσ1 : opened σ id id2 (es ++ spare r.sz (c - es.length)) = σ1 at hop
      have hx1 : σ1.objs id2 = some (.cells ro2 es2) := by
        rw [← hσ1]
        show (if id2 = id then _ else if id2 = id2 then σ.objs id2 else none) = _
        rw [if_neg (fun e => hne e.symm), if_pos rfl]; exact ho2
      have hx0 : σ1.objs id = some (.cells 0 (es ++ spare r.sz (c - es.length))) := by
        rw [← hσ1]
        show (if id = id then _ else _) = _
        rw [if_pos rfl]
      have hnx : σ1.next = σ.next := by rw [← hσ1]; rfl
      have hx : elemsOf σ1 (.lsl id2 sz2 idx2 m cap2) = some ((es2.drop idx2).take m) := by simp only [elemsOf, hx1, if_pos hle]
      have hvs1 : VR (ρ.put id { r with n := c }) F w (.lsl id r.sz 0 es.length (some c)) (.slice (some ⟨b, o, none⟩) es.length c) :=
        .lsl id 0 es.length (some c) { r with n := c } b o c (put_here _ _) hab hlc (fun k hk => by cases hk; exact ⟨rfl, by rw [Nat.zero_add]; exact Nat.le_refl _⟩) (fun h => by cases h) (by rw [Nat.zero_add]; exact hph) (by rw [Nat.zero_add]; exact hlc)
      have hvx1 : VR (ρ.put id { r with n := c }) F w (.lsl id2 sz2 idx2 m cap2) cx := by
        obtain ⟨r2, b2, o2, c2, hr2, hrs2, rfl, hab2, hlc2, hkk2, hkn2, hph2, hinn2⟩ := hvx.lsl_inv
        subst hrs2
        exact .lsl id2 idx2 m cap2 r2 b2 o2 c2 (by rw [put_there _ (fun e => hne e.symm)]; exact hr2) hab2 hlc2 hkk2 hkn2 hph2 hinn2
      have hu' : VRs (ρ.put id { r with n := c }) F w [.lsl id r.sz 0 es.length (some c), .int .i64 (i.toNat : Nat), .lsl id2 sz2 idx2 m cap2] [.slice (some ⟨b, o, none⟩) es.length c, .int .i64 i, cx] := by
        refine ⟨rfl, fun k c' u a1 a2 => ?_⟩
        match k with
        | 0 => cases a1; cases a2; exact hvs1
        | 1 => cases a1; cases a2; rw [Int.toNat_of_nonneg hi0]; exact .pure (.int _ _)
        | 2 => cases a1; cases a2; exact hvx1
        | k + 3 => simp at a1
      have hfresh : ∀ j, σ1.next ≤ j → j < σ1.next + 1 → (ρ.put id { r with n := c }) j = none := fun j a1 a2 => by
        rw [hnx] at a1 a2
        rw [put_there _ (by omega)]
        exact hn j a1 a2
      have hpnew : ∀ e ∈ es.take i.toNat ++ (es2.drop idx2).take m ++ es.drop i.toNat, ∀ x ∈ e, x.plain = true := fun e he => by
        rcases List.mem_append.1 he with he | he
        · rcases List.mem_append.1 he with he | he
          · exact (hpe' e (List.mem_of_mem_take he)).2
          · exact (hp2' e (hnewsub e he)).2
        · exact (hpe' e (List.mem_of_mem_drop he)).2
      have hlnew : (es.take i.toNat ++ (es2.drop idx2).take m ++ es.drop i.toNat).length = es.length + m := by
        rw [List.length_append, List.length_append, hnl, List.length_take, List.length_drop]; omega
      have hsp : (spare r.sz (c - es.length)).length = c - es.length := List.length_replicate
      rcases Nat.lt_or_ge c (es.length + m) with hc | hc
      · -- no room
        have hrun := H.grow ht E rfl hx (rowsPl_all1 hnew1) hnl.symm hm hne (by rw [hnx]; exact hid) (by rw [hnx]; exact hid2) hx0 (rowsPl_all1 hpe) hsp hlc hc hi hb
        refine (H.ok f _ σ1 _ _ hrun (ρ.put id { r with n := c }) F w _ hop hu' (fun j a1 a2 => hfresh j a1 a2)).mono fun e w' ⟨vc, ρ', F', he, g, s', hv⟩ => ?_
        obtain ⟨rk, hk⟩ : ∃ rk, ρ' σ1.next = some rk := by
          obtain ⟨rk, _, _, _, hk, _⟩ := hv.lsl_inv
          exact ⟨rk, hk⟩
        have hrz : rk.sz = r.sz := by
          obtain ⟨rk', _, _, _, hk', hsz', _⟩ := hv.lsl_inv
          rw [hk] at hk'; cases hk'; exact hsz'.symm
        have g2 : ∀ σx, Go1 (ρ.put id { r with n := c }) F σ1 w ρ' F' σx w' → Go1 (ρ.put id { r with n := c }) F (opened σ id id2 (es ++ spare r.sz (c - es.length))) w ρ' F' σx w' := fun σx h9 => by rw [hσ1]; exact h9
        rw [← hrz, ← hlnew] at hv
        obtain ⟨ρ'', g1, s1, v1⟩ := close_sr hs hne hr ho ho2 (fun e he => (hp2' e he).2) (g2 _ g) s' hn0 hk (rest := []) (by rw [List.append_nil]; exact push_obj _ _) (by rw [hnx]; omega) (by rw [push_old (by rw [hnx]; exact hid2)]; exact hx1) hpnew hv
        rw [hrz, hlnew] at v1
        exact ⟨vc, ρ'', F', he, g1, s1, v1⟩
      · obtain ⟨cap', hrun⟩ := H.room ht E rfl hx (rowsPl_all1 hnew1) hnl.symm hm hne (by rw [hnx]; exact hid) (by rw [hnx]; exact hid2) hx0 (rowsPl_all1 hpe) (fun e he => by rw [List.eq_of_mem_replicate he, List.length_replicate]) hsp hc hi hb
        refine (H.ok f _ σ1 _ _ hrun (ρ.put id { r with n := c }) F w _ hop hu' (fun j a1 a2 => hfresh j a1 (Nat.lt_succ_of_lt a2))).mono fun e w' ⟨vc, ρ', F', he, g, s', hv⟩ => ?_
        have hk : ρ' id = some { r with n := c } := g.rec_ _ _ (put_here _ _)
        have g2 : ∀ σx, Go1 (ρ.put id { r with n := c }) F σ1 w ρ' F' σx w' → Go1 (ρ.put id { r with n := c }) F (opened σ id id2 (es ++ spare r.sz (c - es.length))) w ρ' F' σx w' := fun σx h9 => by rw [hσ1]; exact h9
        rw [← hlnew] at hv
        obtain ⟨ρ'', g1, s1, v1⟩ := close_sr hs hne hr ho ho2 (fun e he => (hp2' e he).2) (g2 _ g) s' hn0 hk (put_obj _ _ _) hne (by rw [put_other (fun e => hne e.symm)]; exact hx1) hpnew hv
        rw [hlnew] at v1
        exact ⟨vc, ρ'', F', he, g1, s1, v1⟩
  next := by
    intro args σ v σ' h
    obtain ⟨s, i, id2, sz2, idx2, m, cap2, el, sz, by_, z, ro2, es2, rfl, _, _, _, _, _, _, _, _, _, _, _, _, hcase⟩ := insertv_inv h
    rcases hcase with ⟨_, _, _, heq⟩ | ⟨_, _, _, _, _, _, _, _, _, _, _, _, heq⟩
    · cases heq; exact Nat.le_succ _
    · cases heq; exact Nat.le_succ _
  clean := by
    intro args σ v σ' h hc
    obtain ⟨s, i, id2, sz2, idx2, m, cap2, el, sz, by_, z, ro2, es2, rfl, _, _, _, _, _, _, _, _, _, _, _, _, hcase⟩ := insertv_inv h
    rcases hcase with ⟨_, _, _, heq⟩ | ⟨_, _, _, _, _, _, _, _, _, _, _, _, heq⟩
    · cases heq; exact hc.push _
    · cases heq; exact (hc.kill _).push _
end
end Go.Pvm

/- Part of the proof: inserting into a slice: the text of the library's function, carried out. -/
set_option linter.unusedSimpArgs false
set_option linter.unusedVariables false
namespace Go.Pvm

/-- What the library's text says: t the slice's type, ti that of numbers, 'ov' and 'rot' the functions that it asks. -/
def insBody (cfg : Cfg) (C : CallO) (t ti : TypeId) (ov rot : FuncId) (σ : Store) (a0 : PV) (a1 : Int) (a2 : PV) : Option (PV × Store) :=
  (cutv cfg.P t a0 (some (.int .i64 a1)) none none).bind fun _ => (pureB cfg.P .len [t] [a2]).bind fun v1 => asInt .i64 v1 fun n2 => if (n2 == 0) = true then (some (a0, σ)) else
  (pureB cfg.P .len [t] [a0]).bind fun v3 => asInt .i64 v3 fun n4 => if (a1 == n4) = true then ((writeB cfg.P σ .append [t, t] [a0, a2]).bind fun r5 => some (r5.1, r5.2)) else
  (pureB cfg.P .cap [t] [a0]).bind fun v6 => asInt .i64 v6 fun n7 => if (decide ((IntKind.wrap .i64 (n4 + n2)) > n7)) = true then
    (cutv cfg.P t a0 none (some (.int .i64 a1)) none).bind fun v8 => (writeB cfg.P σ .append [t, ti] [v8, (.int .i64 (IntKind.wrap .i64 ((IntKind.wrap .i64 (n4 + n2)) - a1)))]).bind fun r9 =>
    (cutv cfg.P t r9.1 (some (.int .i64 a1)) none none).bind fun v10 => (writeB cfg.P r9.2 .copy [t, t] [v10, a2]).bind fun r11 => asInt .i64 r11.1 fun _ =>
    (cutv cfg.P t r9.1 (some (.int .i64 (IntKind.wrap .i64 (a1 + n2)))) none none).bind fun v13 => (cutv cfg.P t a0 (some (.int .i64 a1)) none none).bind fun v14 => (writeB cfg.P r11.2 .copy [t, t] [v13, v14]).bind fun r15 => asInt .i64 r15.1 fun _ => some (r9.1, r15.2)
  else
    (cutv cfg.P t a0 none (some (.int .i64 (IntKind.wrap .i64 (n4 + n2)))) none).bind fun v17 => (cutv cfg.P t v17 (some (.int .i64 (IntKind.wrap .i64 (a1 + n2)))) none none).bind fun v18 =>
    (callE cfg C ov [a2, v18] σ).bind fun r19 => asBool r19.1 fun b20 => if (!b20) = true then
      (cutv cfg.P t v17 (some (.int .i64 (IntKind.wrap .i64 (a1 + n2)))) none none).bind fun v21 => (cutv cfg.P t v17 (some (.int .i64 a1)) none none).bind fun v22 => (writeB cfg.P r19.2 .copy [t, t] [v21, v22]).bind fun r23 => asInt .i64 r23.1 fun _ =>
      (cutv cfg.P t v17 (some (.int .i64 a1)) none none).bind fun v25 => (writeB cfg.P r23.2 .copy [t, t] [v25, a2]).bind fun r26 => asInt .i64 r26.1 fun _ => some (v17, r26.2)
    else
      (cutv cfg.P t v17 (some (.int .i64 n4)) none none).bind fun v28 => (writeB cfg.P r19.2 .copy [t, t] [v28, a2]).bind fun r29 => asInt .i64 r29.1 fun _ =>
      (cutv cfg.P t v17 (some (.int .i64 a1)) none none).bind fun v31 => (callE cfg C rot [v31, (.int .i64 n2)] r29.2).bind fun r32 => some (v17, r32.2)

section
variable {P : Program} {t el : TypeId} {sz by_ : Nat} {σ : Store}
theorem cutI (hu : P.underlying t = some (.slice el)) (hs : szOf P el = some sz) {id idx len c a b : Nat} {lo hi : Option PV} (hl : numOf lo 0 = some a) (hh : numOf hi len = some b) (h1 : a ≤ b) (h2 : b ≤ c) :
    cutv P t (.lsl id sz idx len (some c)) lo hi none = some (.lsl id sz (idx + a) (b - a) (some (c - a))) := by
  have hm : numOf none ((some c).getD len) = some c := rfl
  simp only [cutv, hu, hs, Option.bind_some, hl, hh, hm]
  rw [if_neg (by simp), if_neg (by simp), if_pos ⟨h1, h2, Nat.le_refl _⟩]
  rfl
theorem numN (n : Nat) (d : Nat) : numOf (some (.int .i64 (n : Nat))) d = some n := by simp [numOf]
theorem lenW (hu : P.underlying t = some (.slice el)) (id sz' idx len : Nat) (cap : Option Nat) : pureB P .len [t] [.lsl id sz' idx len cap] = some (.int .i64 (len : Nat)) := by simp [pureB, hu]
theorem lenNW (hu : P.underlying t = some (.slice el)) : pureB P .len [t] [.nilsl] = some (.int .i64 0) := by simp [pureB, hu]
theorem capW (hu : P.underlying t = some (.slice el)) (id sz' idx len c : Nat) : pureB P .cap [t] [.lsl id sz' idx len (some c)] = some (.int .i64 (c : Nat)) := by simp [pureB, hu]
theorem asIntI {β : Type} (κ : IntKind) (n : Int) (k : Int → Option β) : asInt κ (.int κ n) k = k n := by simp [asInt]
theorem copyI (hu : P.underlying t = some (.slice el)) (E : El P el sz by_) {id idx len ro : Nat} {cap : Option Nat} {es src : List (List PV)} {x : PV} (hx : elemsOf σ x = some src) (ha : (src.all fun e => e.length == sz) = true) (ha2 : all1 sz (src.take len) = true)
    (ho : σ.objs id = some (.cells ro es)) (hi : idx + len ≤ es.length) (hr : ro ≤ idx) :
    writeB P σ .copy [t, t] [.lsl id sz idx len cap, x] = some (.int .i64 (Nat.min src.length len), σ.put id (.cells ro (es.take idx ++ src.take len ++ es.drop (idx + (src.take len).length)))) := by
  simp only [writeB, hu, copyv, E.hsz, hx, Option.bind_some, ho]
  rw [if_neg E.pos.1, if_neg (by simp), if_pos ⟨hi, hr⟩, if_pos ⟨ha, ha2⟩]
theorem put_push (σ : Store) (o o' : Obj) : (σ.push o).put σ.next o' = σ.push o' := by
  unfold Store.push Store.put
  congr 1
  funext i
  by_cases h : i = σ.next <;> simp [h]
theorem put_putW (σ : Store) (id : Nat) (o o' : Obj) : (σ.put id o).put id o' = σ.put id o' := by
  unfold Store.put
  congr 1
  funext i
  by_cases h : i = id <;> simp [h]
theorem elemsL {id sz' idx len ro : Nat} {cap : Option Nat} {es : List (List PV)} (ho : σ.objs id = some (.cells ro es)) (h : idx + len ≤ es.length) : elemsOf σ (.lsl id sz' idx len cap) = some ((es.drop idx).take len) := by
  simp only [elemsOf, ho, if_pos h]
theorem all1_lens {es : List (List PV)} (h : all1 sz es = true) : ∀ e ∈ es, e.length = sz := (all1_spec h).1

theorem insRuns_of {cfg : Cfg} {f ov rot : FuncId} {ti ov_t el' : TypeId} {κ : IntKind} (hti : cfg.P.underlying ti = some (.int κ)) (hmix : cfg.P.follows .mixedOrders = true) (hT : ∀ f, cfg.told f = none)
    (hov : extOf cfg.P ov = some (.overlaps ov_t)) (hovt : cfg.P.underlying ov_t = some (.slice el')) (hovz : ∃ z, szOf cfg.P el' = some z) (hove : enters cfg.P ov = false) (hovm : cfg.mode ov = .pure)
    (ev : ∀ σ a0 a1 a2, stepK cfg (callω cfg) (loopω cfg) f [a0, .int .i64 a1, a2] σ = insBody cfg (callω cfg) t ti ov rot σ a0 a1 a2) : InsRuns cfg.P t (callω cfg) f where
  ok := (omega_ok (.none hT) hmix).ok
  nil := by
    intro el sz by_ hu E σ x new id2 sz2 idx2 m cap2 hx he ha hm hm0 hb
    refine callω_ofK (hT f) ((ev σ _ _ _).trans ?_)
    subst hx
    have hcn : cutv cfg.P t .nilsl (some (.int .i64 0)) none none = some .nilsl := by simp [cutv, hu, E.hsz, numOf]
    unfold insBody
    simp only [hcn, Option.bind_some, lenW hu, asIntI, lenNW hu]
    rw [if_neg (by simp; omega), if_pos (by simp)]
    have hne : new ≠ [] := fun e => by subst e; exact hm0 hm
    rw [writeB_append hu hu rfl, appendv_nil E he ha hne (by rw [← hm]; exact hb), ← hm]
    rfl
  grow := by
    intro el sz by_ hu E σ x new es rest id id2 sz2 idx2 m c i cap2 hx he ha hm hm0 hne hid hid2 ho hes hrl hlc hcm hi hb
    refine callω_ofK (hT f) ((ev σ _ _ _).trans ?_)
    subst hx
    have hbig : es.length + m ≤ 140737488355328 := Nat.le_trans (Nat.le_mul_of_pos_right _ (Nat.pos_of_ne_zero E.pos.2)) hb
    have hnm : new ≠ [] := fun e => by subst e; exact hm0 hm
    have hel : es.length ≤ (es ++ rest).length := by rw [List.length_append]; omega
    unfold insBody
    rw [cutI hu E.hsz (numN i 0) (show numOf none es.length = some es.length from rfl) hi hlc]
    simp only [Option.bind_some, lenW hu, asIntI]
    rw [if_neg (by simp; omega)]
    by_cases hie : i = es.length
    · subst hie
      rw [if_pos (by simp), writeB_append hu hu rfl, appendv_start E he ha]
      simp only [ho]
      rw [if_neg (by omega), if_neg (by simp), if_neg (by simp only [Option.getD_some]; omega), if_pos (by omega), if_pos (by rw [← hm]; exact hb), if_pos (by omega)]
      simp only [Option.bind_some, List.drop_zero, List.take_left, List.take_length, List.drop_length, List.append_nil, ← hm]
    · have hw1 : IntKind.wrap .i64 ((es.length : Int) + (m : Int)) = ((es.length + m : Nat) : Int) := by rw [wrap_i64 (by omega) (by omega)]; omega
      have hw2 : IntKind.wrap .i64 (((es.length + m : Nat) : Int) - (i : Int)) = ((es.length + m - i : Nat) : Int) := by rw [wrap_i64 (by omega) (by omega)]; omega
      have hw3 : IntKind.wrap .i64 ((i : Int) + (m : Int)) = ((i + m : Nat) : Int) := by rw [wrap_i64 (by omega) (by omega)]; omega
      rw [if_neg (by simp only [beq_iff_eq]; omega), capW hu]
      simp only [Option.bind_some, asIntI, hw1]
      rw [if_pos (by rw [decide_eq_true_eq]; omega), cutI hu E.hsz (show numOf none 0 = some 0 from rfl) (numN i es.length) (Nat.zero_le _) (by omega)]
      simp only [Option.bind_some, hw2, Nat.sub_zero, Nat.add_zero]
      obtain ⟨z, hz, hzk, hzl⟩ := E.z
      have happ : writeB cfg.P σ .append [t, ti] [.lsl id sz 0 i (some c), .int .i64 ((es.length + m - i : Nat) : Int)] = some (.lsl σ.next sz 0 (es.length + m) none, σ.push (.cells 0 (es.take i ++ List.replicate (es.length + m - i) z.cells))) := by
        have : appendzv cfg.P σ el (.lsl id sz 0 i (some c)) ((es.length + m - i : Nat) : Int) = some (.lsl σ.next sz 0 (es.length + m) none, σ.push (.cells 0 (es.take i ++ List.replicate (es.length + m - i) z.cells))) := by
          unfold appendzv
          simp only [E.hsz, E.hby, hz, Option.bind_some, ho, Int.toNat_natCast]
          rw [if_neg (by simp only [not_or]; exact ⟨E.pos.1, E.pos.2, by simp [hzk], by simp [hzl]⟩)]
          rw [if_pos ⟨trivial, by omega, by omega, by rw [show i + (es.length + m - i) = es.length + m by omega]; exact hb, by rw [Nat.zero_add]; omega⟩]
          rw [show i + (es.length + m - i) = es.length + m by omega, List.drop_zero, List.take_append_of_le_length hi]
        simp only [writeB, hu, hti]
        exact this
      rw [happ]
      simp only [Option.bind_some]
      rw [cut_lsl (b := es.length + m) hu E.hsz (numN i 0) (show numOf none (es.length + m) = some (es.length + m) from rfl) (by omega) (Nat.le_refl _) (fun c hc => by cases hc)]
      simp only [Option.bind_some, Nat.zero_add, Option.map_none]
      have he1 : elemsOf (σ.push (.cells 0 (es.take i ++ List.replicate (es.length + m - i) z.cells))) (.lsl id2 sz2 idx2 m cap2) = some new := by
        simp only [elemsOf] at he ⊢
        rw [push_old hid2]; exact he
      have hl1 : (es.take i ++ List.replicate (es.length + m - i) z.cells).length = es.length + m := by simp; omega
      have htk : new.take (es.length + m - i) = new := List.take_of_length_le (by omega)
      rw [copyI hu E he1 (by have := all1_lens ha; simpa using this) (by rw [htk]; exact ha) (push_obj _ _) (by rw [hl1]; omega) (Nat.zero_le _)]
      simp only [Option.bind_some, asIntI, hw3, put_push, htk]
      rw [cut_lsl (b := es.length + m) hu E.hsz (numN (i + m) 0) (show numOf none (es.length + m) = some (es.length + m) from rfl) (by omega) (Nat.le_refl _) (fun c hc => by cases hc)]
      simp only [Option.bind_some, Nat.zero_add, Option.map_none]
      have ht1 : (es.take i ++ List.replicate (es.length + m - i) z.cells).take i = es.take i := by
        rw [List.take_append_of_le_length (by simp; omega), List.take_take]; congr 1; omega
      have hd1 : (es.take i ++ List.replicate (es.length + m - i) z.cells).drop (i + new.length) = List.replicate (es.length - i) z.cells := by
        rw [List.drop_append, List.drop_of_length_le (by simp; omega), List.nil_append, List.drop_replicate]
        congr 1
        simp; omega
      rw [ht1, hd1]
      have ho2 : (σ.push (.cells 0 (es.take i ++ new ++ List.replicate (es.length - i) z.cells))).objs id = some (.cells 0 (es ++ rest)) := by rw [push_old hid]; exact ho
      have hsrc := elemsL (sz' := sz) (idx := i) (len := es.length - i) (cap := some (c - i)) ho2 (by omega)
      have hsr : ((es ++ rest).drop i).take (es.length - i) = es.drop i := by
        rw [List.drop_append_of_le_length hi, List.take_append_of_le_length (by rw [List.length_drop]; exact Nat.le_refl _), List.take_of_length_le (by rw [List.length_drop]; exact Nat.le_refl _)]
      rw [hsr] at hsrc
      have hesl := all1_lens hes
      have htk2 : (es.drop i).take (es.length + m - (i + m)) = es.drop i := List.take_of_length_le (by rw [List.length_drop]; omega)
      rw [copyI hu E hsrc (by rw [List.all_eq_true]; exact fun e he => by simpa using hesl e (List.mem_of_mem_drop he)) (by
          rw [htk2]; unfold all1 at hes ⊢; rw [List.all_eq_true] at hes ⊢; exact fun e he => hes e (List.mem_of_mem_drop he)) (push_obj _ _) (by simp; omega) (Nat.zero_le _)]
      simp only [Option.bind_some, asIntI, put_push, htk2]
      have ht2 : (es.take i ++ new ++ List.replicate (es.length - i) z.cells).take (i + m) = es.take i ++ new := by
        rw [List.take_append_of_le_length (by simp; omega), List.take_of_length_le (by simp; omega)]
      have hd2 : (es.take i ++ new ++ List.replicate (es.length - i) z.cells).drop (i + m + (es.drop i).length) = [] := List.drop_of_length_le (by simp; omega)
      rw [ht2, hd2, List.append_nil]
  room := by
    intro el sz by_ hu E σ x new es rest id id2 sz2 idx2 m c i cap2 hx he ha hm hm0 hne hid hid2 ho hes hrz hrl hcm hi hb
    refine ⟨some c, callω_ofK (hT f) ((ev σ _ _ _).trans ?_)⟩
    subst hx
    have hbig : es.length + m ≤ 140737488355328 := Nat.le_trans (Nat.le_mul_of_pos_right _ (Nat.pos_of_ne_zero E.pos.2)) hb
    have hnm : new ≠ [] := fun e => by subst e; exact hm0 hm
    have hxl : (es ++ rest).length = c := by rw [List.length_append]; omega
    unfold insBody
    rw [cutI hu E.hsz (numN i 0) (show numOf none es.length = some es.length from rfl) hi (by omega)]
    simp only [Option.bind_some, lenW hu, asIntI]
    rw [if_neg (by simp; omega)]
    by_cases hie : i = es.length
    · subst hie
      rw [if_pos (by simp), writeB_append hu hu rfl, appendv_start E he ha]
      simp only [ho]
      rw [if_neg (by omega), if_neg (by simp), if_pos (by simp only [Option.getD_some]; omega), if_pos (Nat.zero_le _)]
      simp only [Option.bind_some, Nat.zero_add, List.take_left, List.take_length, List.drop_length, List.append_nil, ← hm]
      rw [List.drop_append, List.drop_of_length_le (by omega), List.nil_append, show es.length + m - es.length = m by omega]
    · have hw1 : IntKind.wrap .i64 ((es.length : Int) + (m : Int)) = ((es.length + m : Nat) : Int) := by rw [wrap_i64 (by omega) (by omega)]; omega
      have hw3 : IntKind.wrap .i64 ((i : Int) + (m : Int)) = ((i + m : Nat) : Int) := by rw [wrap_i64 (by omega) (by omega)]; omega
      rw [if_neg (by simp only [beq_iff_eq]; omega), capW hu]
      simp only [Option.bind_some, asIntI, hw1, hw3]
      rw [if_neg (by simp; omega), cutI hu E.hsz (show numOf none 0 = some 0 from rfl) (numN (es.length + m) es.length) (Nat.zero_le _) hcm]
      simp only [Option.bind_some, Nat.sub_zero, Nat.add_zero]
      rw [cutI hu E.hsz (numN (i + m) 0) (show numOf none (es.length + m) = some (es.length + m) from rfl) (by omega) hcm]
      simp only [Option.bind_some, Nat.zero_add]
      have ho9 : ∃ ro2 es2, σ.objs id2 = some (.cells ro2 es2) := by
        have h8 := he
        simp only [elemsOf] at h8
        split at h8
        · rename_i ro2 es2 h9; exact ⟨ro2, es2, h9⟩
        · cases h8
      obtain ⟨ro2, es2, ho2⟩ := ho9
      obtain ⟨z9, hz9⟩ := hovz
      have hcall : callE cfg (callω cfg) ov [.lsl id2 sz2 idx2 m cap2, .lsl id sz (i + m) (es.length + m - (i + m)) (some (c - (i + m)))] σ = some (.bool false, σ) := by
        unfold callE
        rw [if_neg (by rw [hove]; decide)]
        unfold extC
        rw [hovm]
        unfold ext2
        simp only [hov, hovt, hz9, Option.bind_some, ho2, ho]
        rw [if_neg (fun e => hne e.symm)]
        rfl
      rw [hcall]
      simp only [Option.bind_some, asBool, Bool.not_false, if_true]
      rw [cutI hu E.hsz (numN i 0) (show numOf none (es.length + m) = some (es.length + m) from rfl) (by omega) hcm]
      simp only [Option.bind_some, Nat.zero_add]
      have hesl := all1_lens hes
      have hsrc := elemsL (sz' := sz) (idx := i) (len := es.length + m - i) (cap := some (c - i)) ho (by omega)
      have htk : (((es ++ rest).drop i).take (es.length + m - i)).take (es.length + m - (i + m)) = es.drop i := by
        rw [List.take_take, List.drop_append_of_le_length hi, List.take_append_of_le_length (by rw [List.length_drop]; omega), List.take_of_length_le (by rw [List.length_drop]; omega)]
      rw [copyI hu E hsrc (by
          rw [List.all_eq_true]
          intro e he9
          have := List.mem_of_mem_drop (List.mem_of_mem_take he9)
          rcases List.mem_append.1 this with h9 | h9
          · simpa using hesl e h9
          · simpa using hrz e h9) (by rw [htk]; unfold all1 at hes ⊢; rw [List.all_eq_true] at hes ⊢; exact fun e he => hes e (List.mem_of_mem_drop he)) ho (by omega) (Nat.zero_le _)]
      simp only [Option.bind_some, asIntI, htk]
      have he1 : ∀ o, elemsOf (σ.put id o) (.lsl id2 sz2 idx2 m cap2) = some new := fun o => by
        simp only [elemsOf] at he ⊢
        rw [put_other (fun e => hne e.symm)]; exact he
      have htn : new.take (es.length + m - i) = new := List.take_of_length_le (by omega)
      rw [copyI hu E (he1 _) (by have := all1_lens ha; simpa using this) (by rw [htn]; exact ha) (put_obj _ _ _) (by simp; omega) (Nat.zero_le _)]
      simp only [Option.bind_some, asIntI, put_putW, htn]
      have ht1 : ((es ++ rest).take (i + m) ++ es.drop i ++ (es ++ rest).drop (i + m + (es.drop i).length)).take i = es.take i := by
        rw [List.append_assoc, List.take_append_of_le_length (by simp; omega), List.take_take, Nat.min_eq_left (by omega), List.take_append_of_le_length hi]
      have hd1 : ((es ++ rest).take (i + m) ++ es.drop i ++ (es ++ rest).drop (i + m + (es.drop i).length)).drop (i + new.length) = es.drop i ++ rest.drop m := by
        have hl9 : ((es ++ rest).take (i + m)).length = i + m := by simp; omega
        rw [List.append_assoc, ← hm, List.drop_append, List.drop_of_length_le (by omega), List.nil_append, hl9, Nat.sub_self, List.drop_zero]
        congr 1
        rw [List.length_drop, List.drop_append, List.drop_of_length_le (by omega), List.nil_append]
        congr 1
        omega
      rw [ht1, hd1]
      simp only [List.append_assoc]
end
end Go.Pvm

/- Part of the proof: numbers sorted by Go's library, told by a word. -/
set_option linter.unusedSimpArgs false
set_option linter.unusedVariables false
namespace Go.Pvm
open Go.Proofs
section
variable {P : Program} {ρ : Where} {F : Froz} {w : World} {σ : Store}
theorem intsOf_rows : ∀ {es : List (List PV)} {l : List Int}, intsOf es = some l → es = l.map intRow
  | [], l, h => by cases h; rfl
  | e :: es, l, h => by
    unfold intsOf at h
    split at h
    · rename_i heq; cases heq
    · rename_i n r heq
      cases heq
      rw [Option.map_eq_some_iff] at h
      obtain ⟨l', h1, rfl⟩ := h
      rw [List.map_cons, ← intsOf_rows h1]; rfl
    · cases h
theorem putObj_self {id : Nat} {o : Obj} (h : σ.objs id = some o) : σ.put id o = σ := by
  obtain ⟨n, f⟩ := σ
  unfold Store.put
  congr 1
  funext i
  by_cases e : i = id
  · subst e; simp only [if_true]; exact h.symm
  · simp [e]
theorem vrs_ints (l : List Int) : VRs ρ F w (l.map intRow).flatten (l.map (Value.int .i64)) := by
  have e : (l.map intRow).flatten = l.map (fun n => PV.int .i64 n) := by
    induction l with
    | nil => rfl
    | cons n l ih => rw [List.map_cons, List.flatten_cons, ih]; rfl
  rw [e]
  refine ⟨by simp, fun i c u h1 h2 => ?_⟩
  rw [List.getElem?_map, Option.map_eq_some_iff] at h1 h2
  obtain ⟨n, a1, rfl⟩ := h1
  obtain ⟨m, a2, rfl⟩ := h2
  rw [a1] at a2
  cases a2
  exact .pure (.int _ _)
theorem sort_told {ν : Go.Shelf.Ren} (Ly : Lays.n189 P ν) : ToldOk P (ν.f 189) sortv where
  ok := by
    intro args σ v σ' h ρ F w us hs hu hn
    unfold sortv at h
    split at h
    · cases h
      obtain ⟨c, us1, rfl, hc, hu1⟩ := hu.cons_inv
      obtain rfl := hu1.nil_inv
      obtain rfl := hc.nilsl_inv
      exact (Any.slices_Sort_int_none Ly none 0 w).mono fun e w' ⟨h1, h2⟩ => ⟨_, ρ, F, h1, by rw [h2]; exact .refl _ _ _ _, by rw [h2]; exact hs, unit_vr⟩
    · rename_i id idx len cap
      obtain ⟨c, us1, rfl, hc, hu1⟩ := hu.cons_inv
      obtain rfl := hu1.nil_inv
      split at h
      rotate_left
      · cases h
      rename_i ro es ho
      split at h
      rotate_left
      · cases h
      rename_i hh
      obtain ⟨hro, hle, hlen⟩ := hh
      rw [Option.map_eq_some_iff] at h
      obtain ⟨l, hl, heq⟩ := h
      cases heq
      obtain ⟨r, b, o, c, hr, hrs, rfl, hab, hlc, hkk, hkn, hph, hinn⟩ := hc.lsl_inv
      have hrows := intsOf_rows hl
      have hll : l.length = len := by
        have : ((es.drop idx).take len).length = (l.map intRow).length := by rw [hrows]
        rw [List.length_take, List.length_drop, List.length_map] at this
        omega
      rcases Nat.eq_zero_or_pos len with h0 | h0
      · subst h0
        have : l = [] := List.eq_nil_of_length_eq_zero hll
        subst this
        refine (Any.slices_Sort_int_none Ly (some ⟨b, o, none⟩) c w).mono fun e w' ⟨h1, h2⟩ => ⟨_, ρ, F, h1, ?_, ?_, unit_vr⟩
        · rw [h2]
          rw [show (es.take idx ++ (([] : List Int).mergeSort fun x y => decide (x ≤ y)).map intRow ++ es.drop (idx + 0)) = es by simp, putObj_self ho]
          exact .refl _ _ _ _
        · rw [h2]
          rw [show (es.take idx ++ (([] : List Int).mergeSort fun x y => decide (x ≤ y)).map intRow ++ es.drop (idx + 0)) = es by simp, putObj_self ho]
          exact hs
      · obtain ⟨rfl, rfl⟩ := hab (by omega)
        obtain ⟨arr, ty, hb, hp, hnn, hes, hfit, hrn, hz0, hF, hcc⟩ := (hs.obj id r _ hr ho).cells_inv
        have hcell : ∀ j, j < l.length → w.cell? ⟨r.block, r.sh + idx * r.sz + j, none⟩ = some (Value.int .i64 l[j]!) := fun j hj => by
          have he : es[idx + j]? = some (intRow l[j]!) := by
            have : ((es.drop idx).take len)[j]? = some (intRow l[j]!) := by
              rw [hrows, List.getElem?_map, List.getElem?_eq_getElem hj, getElem!_pos l j hj]; rfl
            rw [List.getElem?_take_of_lt (by omega), List.getElem?_drop] at this
            exact this
          obtain ⟨x, q1, q2⟩ := hcc _ _ he 0 (.int .i64 l[j]!) rfl
          obtain rfl := q2.int_inv
          have e9 : r.sh + (idx + j) * r.sz + 0 = r.sh + idx * r.sz + j := by rw [← hrs]; omega
          rw [e9] at q1
          simp [World.cell?, hb, q1]
        have hH : Go.Sort.Holds (Value.int .i64) w r.block (r.sh + idx * r.sz) l.toArray := fun j hj => by
          have hj' : j < l.length := by simpa using hj
          refine ⟨?_, by simp [World.frozen?, hb]⟩
          rw [hcell j hj']
          simp
        have hblk : r.block < w.heap.size := lv_lt hs ⟨id, r, _, hr, ho, rfl⟩
        rw [← hll]
        refine (Any.slices_Sort_int Ly r.block (r.sh + idx * r.sz) c l w hH hblk (by omega)).mono fun e w' ⟨h1, n, os, h2⟩ => ?_
        have hsl : (l.mergeSort fun x y => decide (x ≤ y)).length = len := by rw [List.length_mergeSort, hll]
        generalize hms : (l.mergeSort fun x y => decide (x ≤ y)) = m at h2 hsl ⊢
        obtain ⟨hend, g, s⟩ := setEls_sound hs hr ho (idx := idx) (new := m.map intRow) (us := m.map (Value.int .i64)) (fun e he => by obtain ⟨x, _, rfl⟩ := List.mem_map.1 he; exact hrs) (vrs_ints m) (by rw [List.length_map]; omega) hro hb
        have hse : setEls es idx (m.map intRow) = es.take idx ++ m.map intRow ++ es.drop (idx + l.length) := by
          unfold setEls
          rw [List.length_map, hsl, hll]
        rw [hse] at g s
        have hul : (m.map (Value.int .i64)).length = len := by rw [List.length_map, hsl]
        have hbl : (w.setRow r.block (laid arr (r.sh + idx * r.sz) (m.map (Value.int .i64)))).heap[r.block]? = some (.cells (laid arr (r.sh + idx * r.sz) (m.map (Value.int .i64))) ty (0, 0)) := setRow_heap w r.block arr _ ty (0, 0) hb
        have hsz : (w.setRow r.block (laid arr (r.sh + idx * r.sz) (m.map (Value.int .i64)))).heap.size = w.heap.size := by unfold World.setRow; simp
        have hgr : Grew (w.setRow r.block (laid arr (r.sh + idx * r.sz) (m.map (Value.int .i64)))) w' := by
          subst h2
          refine ⟨?_, fun k hk => ?_, rfl, rfl, rfl⟩
          · rw [hsz]
            simp [Go.Sort.grow, Go.Sort.putRow, Go.Sort.mapBlock, Go.Sort.ahead]
          · rw [hsz] at hk
            have e1 : (Go.Sort.grow (Go.Sort.putRow (Value.int .i64) (Go.Sort.ahead w n) r.block (r.sh + idx * r.sz) m.toArray) os).heap[k]? = (w.heap.modify r.block (Go.Sort.onCells (Go.Sort.putCells (Value.int .i64) (r.sh + idx * r.sz) m.toArray)))[k]? := by
              unfold Go.Sort.grow Go.Sort.putRow Go.Sort.mapBlock Go.Sort.ahead
              simp only
              rw [Array.getElem?_append_left (by simpa using hk)]
            rw [e1, Array.getElem?_modify]
            by_cases e : r.block = k
            · subst e
              rw [if_pos rfl, hb, hbl]
              simp only [Option.map_some, Go.Sort.onCells]
              congr 2
              apply Array.ext_getElem?
              intro j
              unfold Go.Sort.putCells
              rw [Array.getElem?_mapIdx]
              have hsz2 : m.toArray.size = len := by simp [hsl]
              rw [hsz2, laid_get hend j, hul]
              rcases Nat.lt_or_ge j (r.sh + idx * r.sz) with h3 | h3
              · rw [if_pos h3]
                cases arr[j]? with
                | none => rfl
                | some x => simp only [Option.map_some]; rw [if_neg (by omega)]
              · rw [if_neg (by omega)]
                rcases Nat.lt_or_ge j (r.sh + idx * r.sz + len) with h4 | h4
                · have hj : j < arr.size := by omega
                  have hjm : j - (r.sh + idx * r.sz) < m.length := by omega
                  rw [if_pos h4, Array.getElem?_eq_getElem hj, Option.map_some, if_pos ⟨h3, h4⟩, List.getElem?_map, List.getElem?_eq_getElem hjm, Option.map_some]
                  simp [hjm]
                · rw [if_neg (by omega)]
                  cases arr[j]? with
                  | none => rfl
                  | some x => simp only [Option.map_some]; rw [if_neg (by omega)]
            · rw [if_neg e, setRow_other w r.block k _ (fun h => e h.symm)]
        refine ⟨_, ρ, F, h1, g.trans (Go1.of_grew s hgr (fun _ _ e => e) (fun _ _ e => .inl e) rfl (fun _ o e => ⟨o, e⟩)), s.grew hgr (fun _ _ e => e) (fun b o e => Nat.lt_of_lt_of_le (s.old b o e) hgr.size) rfl (fun _ => .inl rfl) (fun _ _ _ _ _ _ _ _ e => e) (fun _ _ _ _ _ _ _ e => e), unit_vr⟩
    · cases h
  next := by
    intro args σ v σ' h
    unfold sortv at h
    split at h
    · cases h; exact Nat.le_refl _
    · split at h
      · split at h
        · rw [Option.map_eq_some_iff] at h
          obtain ⟨l, _, heq⟩ := h
          cases heq; exact Nat.le_refl _
        · cases h
      · cases h
    · cases h
  clean := by
    intro args σ v σ' h hc
    unfold sortv at h
    split at h
    · cases h; exact hc
    · split at h
      · rename_i ho
        split at h
        · rw [Option.map_eq_some_iff] at h
          obtain ⟨l, _, heq⟩ := h
          cases heq; exact hc.put ho
        · cases h
      · cases h
    · cases h
end
end Go.Pvm
