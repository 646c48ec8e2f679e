/- Part of the proof: images behind a group: the program's and the document's, over values alone. -/
import Derived.Test.YtpilgmnhkgcgkaaRdE
import Derived.Test.YtpilgmnhkgcgkaaKL
import Derived.Test.YtpilgmnhkgcgkaaP5
set_option linter.unusedSimpArgs false
set_option linter.unusedVariables false
set_option maxRecDepth 100000
namespace Go.Pvm.S
open Go.Pvm Go.Proofs
theorem insI_eq (C : CallO) (L : LoopO) (σ : Store) (a0 : PV) (a1 : Int) (a2 : PV) : stepK cfgI C L 31 [a0, .int .i64 a1, a2] σ = insBody cfgI C 25 3 34 35 σ a0 a1 a2 := by kernel_rfl
theorem insI_runs : InsRuns Try.prog 25 (callω cfgI) 31 :=
  insRuns_of (cfg := cfgI) (ti := 3) (ov := 34) (rot := 35) (ov_t := 25) (κ := .i64) (el' := 28) (by kernel_rfl) (by kernel_rfl) (fun _ => rfl) (by kernel_rfl) (by kernel_rfl) ⟨2, by kernel_rfl⟩ (by kernel_rfl) (by kernel_rfl) (fun σ a0 a1 a2 => insI_eq _ _ σ a0 a1 a2)
theorem insI_told : ToldOk Try.prog 31 (wordv Try.prog (.insert 25)) := insert_told insI_runs

theorem clone_pur : ∀ args es, cloneK 1 1 args = some es → ∀ pargs, VFs args pargs → ∃ p τ, callω cfg 24 pargs .empty = some (p, τ) ∧ VF (.psl false es) (fz fuelFz τ p) := by
  intro args es h pargs ha
  unfold cloneK at h
  split at h
  · rename_i b es0
    split at h
    · rename_i hc
      cases h
      obtain ⟨h1, h2, h3⟩ := hc
      have hu : Try.prog.underlying 24 = some (.slice 5) := by kernel_rfl
      have E : El Try.prog 5 1 1 := ⟨by kernel_rfl, by kernel_rfl, ⟨.int .u8 0, by kernel_rfl, rfl, rfl⟩, by decide, by decide⟩
      have hb : binv Try.prog .eql 24 .nilsl .nilsl = some (.bool true) := by kernel_rfl
      have hb2 : ∀ b es, binv Try.prog .eql 24 (.psl b es) .nilsl = some (.bool false) := by intro b es; kernel_rfl
      cases ha with
      | cons hv ht =>
        cases ht
        rename_i p0
        have ev := eq24 (callω cfg) (loopω cfg) .empty p0
        rcases (VK.fr (ρ := fun _ => .undef) (m := 0) hv).psl_inv with ⟨rfl, rfl⟩ | ⟨b', ps, rfl, hps⟩
        · simp only [hb, bind_some', asBool_bool, if_true] at ev
          exact ⟨_, _, callω_ofK (hT _) ev, .nl false⟩
        · have hpl := rowsPl_p hps h1
          have hE := rowsPl_els.1 hpl
          have hq : IsQ (Store.empty.push (.cells 0 [])) 1 (.psl b' ps) ps := .inl (.inr ⟨b', rfl⟩)
          simp only [hb2, bind_some', asBool_bool, Bool.false_eq_true, if_false, bsB0, writeB_append hu hu hq.nostr] at ev
          by_cases hn : ps = []
          · subst hn
            rw [appendv_none E hq.elems] at ev
            have he : es = [] := List.eq_nil_of_length_eq_zero (by rw [hps.len]; rfl)
            subst he
            exact ⟨_, _, callω_ofK (hT _) ev, .psl false true .nil⟩
          · rw [appendv_full E hq.elems hE.all1 hn (push_obj _ _) (Nat.le_refl _) (by rw [Nat.zero_add, ← hps.len]; exact h3)] at ev
            refine ⟨_, _, callω_ofK (hT _) ev, ?_⟩
            have hq2 : IsQ ((Store.empty.push (.cells 0 [])).push (.cells 0 ps)) 1 (.lsl (Store.empty.push (.cells 0 [])).next 1 0 ps.length none) ps := .inr ⟨_, 0, none, 0, ps, rfl, push_obj _ _, by omega, by rw [List.drop_zero, List.take_length], Nat.lt_succ_self _⟩
            rcases hq2.frz hE.plain 6 with ⟨e1, e2⟩ | ⟨b2, e1⟩
            · exact absurd e2 hn
            · rw [Nat.zero_add]
              have e9 : VF (.psl false es) (.psl b2 ps) := .psl _ _ hps
              rw [← e1] at e9
              exact e9
    · cases h
  · cases h
theorem toldOk : ∀ f u, toldOf f = some u → ToldOk Try.prog f (wordv Try.prog u) := by
  intro f u h
  unfold toldOf at h
  split at h
  · cases h; exact insI_told
  · cases h
theorem hTo : Tolds cfg := fun f g h => by
  have h' : (toldOf f).map (wordv Try.prog) = some g := h
  rw [Option.map_eq_some_iff] at h'
  obtain ⟨u, hu, rfl⟩ := h'
  exact toldOk f u hu
theorem ownOk : OwnOk kcfg Try.prog (callω cfg) where
  own := by
    intro g sz h hg args es he
    have hg' : (none : Option (Nat × (List PV → Option (List (List PV))))) = some (sz, h) := hg
    cases hg'
  told := fun g u hu args σ => callω_told (by show (toldOf g).map (wordv Try.prog) = _; rw [show toldOf g = some u from hu]; rfl) args σ
  pur := by
    intro g h hg args es he
    have hg' : purOf g = some h := hg
    unfold purOf at hg'
    split at hg'
    · cases hg'; exact clone_pur args es he
    · cases hg'; exact concat_pur args es he
    · cases hg'

/-! ### Plain -/
def Img.r (m : Img) : List PV := [.int .i64 m.1, .psl false (m.2.map cB)]
theorem cB_ok (b : UInt8) : (cB b).length = 1 ∧ (cB b).all PV.plain = true ∧ PV.own.owns (cB b) = true := ⟨rfl, rfl, rfl⟩
/-- Small images: pages of numbers from 0 to 63, 512 bytes. -/
def Sm (m : Img) : Prop := 0 ≤ m.1 ∧ m.1 ≤ 63 ∧ m.2.length = 512
/-- One more. -/
def putI (m : Img) : List Img → List Img
  | [] => [m]
  | a :: l => if a.1 < m.1 then a :: putI m l else if a.1 = m.1 then m :: l else m :: a :: l
def appI (l out : List Img) : List Img := l.foldl (fun o m => putI m o) out
abbrev Up (l : List Img) : Prop := l.Pairwise fun a b => a.1 < b.1
theorem putI_len (m : Img) : ∀ l : List Img, (putI m l).length ≤ l.length + 1
  | [] => Nat.le_refl _
  | a :: l => by
    have := putI_len m l
    unfold putI
    split
    · simp; omega
    · split <;> simp
theorem putI_mem {m x : Img} : ∀ {l : List Img}, x ∈ putI m l → x = m ∨ x ∈ l
  | [], h => by rw [putI, List.mem_singleton] at h; exact .inl h
  | a :: l, h => by
    unfold putI at h
    split at h
    · rcases List.mem_cons.1 h with rfl | h
      · exact .inr (.head _)
      · exact (putI_mem h).imp id (.tail _)
    · split at h
      · rcases List.mem_cons.1 h with rfl | h
        · exact .inl rfl
        · exact .inr (.tail _ h)
      · rcases List.mem_cons.1 h with rfl | h
        · exact .inl rfl
        · exact .inr h
theorem putI_up {m : Img} : ∀ {l : List Img}, Up l → Up (putI m l)
  | [], _ => List.pairwise_singleton _ _
  | a :: l, h => by
    have ⟨h1, h2⟩ := List.pairwise_cons.1 h
    unfold putI
    split
    · rename_i c
      refine List.pairwise_cons.2 ⟨fun x hx => ?_, putI_up h2⟩
      rcases putI_mem hx with rfl | hx
      · exact c
      · exact h1 x hx
    · split
      · rename_i c
        exact List.pairwise_cons.2 ⟨fun x hx => by rw [← c]; exact h1 x hx, h2⟩
      · rename_i c d
        refine List.pairwise_cons.2 ⟨fun x hx => ?_, h⟩
        rcases List.mem_cons.1 hx with rfl | hx
        · omega
        · have := h1 x hx; omega
theorem putI_self {m : Img} : ∀ {l : List Img}, Up l → m ∈ l → putI m l = l
  | a :: l, h, hm => by
    have ⟨h1, h2⟩ := List.pairwise_cons.1 h
    unfold putI
    rcases List.mem_cons.1 hm with rfl | hm
    · rw [if_neg (Int.lt_irrefl _), if_pos rfl]
    · rw [if_pos (h1 m hm), putI_self h2 hm]
theorem putI_here (m : Img) : ∀ l : List Img, m ∈ putI m l
  | [] => by rw [putI]; exact .head _
  | a :: l => by
    unfold putI
    split
    · exact .tail _ (putI_here m l)
    · split <;> exact .head _
theorem putI_keep {m x : Img} (hne : x.1 ≠ m.1) : ∀ {l : List Img}, x ∈ l → x ∈ putI m l
  | a :: l, h => by
    unfold putI
    split
    · rcases List.mem_cons.1 h with rfl | h
      · exact .head _
      · exact .tail _ (putI_keep hne h)
    · split
      · rename_i c
        rcases List.mem_cons.1 h with rfl | h
        · exact absurd c hne
        · exact .tail _ h
      · exact .tail _ h
theorem appI_up : ∀ {l out : List Img}, Up out → Up (appI l out)
  | [], _, h => h
  | m :: l, _, h => appI_up (l := l) (putI_up h)
theorem appI_len : ∀ (l out : List Img), (appI l out).length ≤ out.length + l.length
  | [], _ => Nat.le_refl _
  | m :: l, out => by
    have h1 := appI_len l (putI m out)
    have h2 := putI_len m out
    show (appI l (putI m out)).length ≤ _
    rw [List.length_cons]
    omega
theorem appI_mem {x : Img} : ∀ {l out : List Img}, x ∈ appI l out → x ∈ l ∨ x ∈ out
  | [], _, h => .inr h
  | m :: l, out, h => by
    rcases appI_mem (l := l) h with h | h
    · exact .inl (.tail _ h)
    · rcases putI_mem h with rfl | h
      · exact .inl (.head _)
      · exact .inr h
/-- What was put stays, if nothing of its page follows. -/
theorem appI_stay {x : Img} : ∀ {l out : List Img}, x ∈ out → (∀ m ∈ l, x.1 ≠ m.1) → x ∈ appI l out
  | [], _, h, _ => h
  | m :: l, out, h, hn => appI_stay (l := l) (putI_keep (hn m (.head _)) h) fun y hy => hn y (.tail _ hy)
theorem appI_has {x : Img} : ∀ {l out : List Img}, Up l → x ∈ l → x ∈ appI l out
  | m :: l, out, h, hx => by
    have ⟨h1, h2⟩ := List.pairwise_cons.1 h
    rcases List.mem_cons.1 hx with rfl | hx
    · exact appI_stay (l := l) (putI_here x out) fun y hy => by have := h1 y hy; omega
    · exact appI_has (l := l) h2 hx
theorem appI_same : ∀ {l out : List Img}, Up out → (∀ m ∈ l, m ∈ out) → appI l out = out
  | [], _, _, _ => rfl
  | m :: l, out, h, hm => by
    show appI l (putI m out) = out
    rw [putI_self h (hm m (.head _))]
    exact appI_same h fun x hx => hm x (.tail _ hx)
theorem putI_end {m : Img} : ∀ {l : List Img}, (∀ x ∈ l, x.1 < m.1) → putI m l = l ++ [m]
  | [], _ => rfl
  | a :: l, h => by
    unfold putI
    rw [if_pos (h a (.head _)), putI_end fun x hx => h x (.tail _ hx)]
    rfl
theorem appI_new : ∀ {l out : List Img}, Up (out ++ l) → appI l out = out ++ l
  | [], out, _ => by rw [List.append_nil]; rfl
  | m :: l, out, h => by
    have h2 := (List.pairwise_append.1 h).2.2
    show appI l (putI m out) = _
    rw [putI_end fun x hx => h2 x hx m (.head _), appI_new (l := l) (by rw [List.append_assoc]; exact h), List.append_assoc]
    rfl
theorem appI_app (a b out : List Img) : appI (a ++ b) out = appI b (appI a out) := List.foldl_append
end Go.Pvm.S
