/- Part of the proof: what is reckoned: sums, comparisons, shifts, conversions, cuts. -/
import Derived.Test.YtkipbdbmeanffaaV2
import Derived.Laws.StructEq
import Derived.Laws.BytesString
set_option linter.unusedSimpArgs false
namespace Go.Pvm
section
variable {P : Program} {ρ : Where} {F : Froz} {w : World}

theorem fieldsOf_struct {t : TypeId} {fs : Array Field} (h : P.underlying t = some (.struct fs)) : P.fieldsOf t = fs := by simp [Program.fieldsOf, h]

theorem run_eqv : ∀ (d : Nat) (t : TypeId) (x y : PV) (b : Bool) (cx cy : Value), eqv P d t x y = some b → VR ρ F w x cx → VR ρ F w y cy → (Op.equalIn d t cx cy).run P w = .ok b w
  | 0, t, x, y, b, cx, cy, h, _, _ => by simp [eqv] at h
  | d + 1, t, x, y, b, cx, cy, h, hx, hy => by
    unfold eqv at h
    split at h
    · rename_i hu; cases h; obtain rfl := hx.bool_inv; obtain rfl := hy.bool_inv; simp [Op.equalIn, run_underlying hu]
    · rename_i hu
      split at h
      · rename_i hk; cases h; subst hk; obtain rfl := hx.int_inv; obtain rfl := hy.int_inv; simp [Op.equalIn, run_underlying hu]
      · cases h
    · rename_i hu
      split at h
      · rename_i hk; cases h; subst hk; obtain rfl := hx.float_inv; obtain rfl := hy.float_inv; simp [Op.equalIn, run_underlying hu]
      · cases h
    · rename_i hu; cases h; obtain rfl := hx.str_inv; obtain rfl := hy.str_inv; simp [Op.equalIn, run_underlying hu]
    · rename_i hu; cases h; obtain rfl := hx.nilptr_inv; obtain rfl := hy.nilptr_inv; simp [Op.equalIn, run_underlying hu]
    · rename_i hu; cases h; obtain rfl := hx.nilptr_inv; obtain ⟨r, _, rfl⟩ := hy.ref_inv; simp [Op.equalIn, run_underlying hu]
    · rename_i hu; cases h; obtain rfl := hx.nilptr_inv; obtain ⟨b, o, rfl, _⟩ := hy.pref_inv; simp [Op.equalIn, run_underlying hu]
    · rename_i hu; cases h; obtain rfl := hy.nilptr_inv; obtain ⟨r, _, rfl⟩ := hx.ref_inv; simp [Op.equalIn, run_underlying hu]
    · rename_i hu; cases h; obtain rfl := hy.nilptr_inv; obtain ⟨b, o, rfl, _⟩ := hx.pref_inv; simp [Op.equalIn, run_underlying hu]
    · rename_i hu; cases h; obtain rfl := hx.nilsl_inv; obtain rfl := hy.nilsl_inv; simp [Op.equalIn, run_underlying hu]
    · rename_i hu; cases h; obtain rfl := hx.nilsl_inv; obtain ⟨_, _, _, _, _, rfl, _⟩ := hy.psl_inv; simp [Op.equalIn, run_underlying hu]
    · rename_i hu; cases h; obtain rfl := hx.nilsl_inv; obtain ⟨_, _, _, _, _, _, rfl, _⟩ := hy.lsl_inv; simp [Op.equalIn, run_underlying hu]
    · rename_i hu; cases h; obtain rfl := hy.nilsl_inv; obtain ⟨_, _, _, _, _, rfl, _⟩ := hx.psl_inv; simp [Op.equalIn, run_underlying hu]
    · rename_i hu; cases h; obtain rfl := hy.nilsl_inv; obtain ⟨_, _, _, _, _, _, rfl, _⟩ := hx.lsl_inv; simp [Op.equalIn, run_underlying hu]
    · rename_i hu; cases h; obtain rfl := hx.nilmap_inv; obtain rfl := hy.nilmap_inv; simp [Op.equalIn, run_underlying hu]
    · cases hy with | pure hy => cases hy
    · cases hx with | pure hx => cases hx
    · rename_i hu; cases h; obtain rfl := hx.nilfunc_inv; obtain rfl := hy.nilfunc_inv; simp [Op.equalIn, run_underlying hu]
    · rename_i hu; cases h; obtain rfl := hx.nilfunc_inv; obtain ⟨_, rfl, _⟩ := hy.func_inv; simp [Op.equalIn, run_underlying hu]
    · rename_i hu; cases h; obtain rfl := hy.nilfunc_inv; obtain ⟨_, rfl, _⟩ := hx.func_inv; simp [Op.equalIn, run_underlying hu]
    · rename_i fs xs ys hu
      split at h
      · cases h
      · rename_i hst
        obtain ⟨us, rfl, hus⟩ := hx.agg_inv
        obtain ⟨vs, rfl, hvs⟩ := hy.agg_inv
        have hf := fieldsOf_struct hu
        rw [run_equalIn_struct w d t _ _ (by rw [hf]; exact hu) (by simpa using hst), hf]
        clear hf hu
        revert h
        generalize fs.toList = l
        intro h
        induction l with
        | nil => simp only [eqFlds] at h; cases h; simp [Op.eqFields]
        | cons f r ih =>
          simp only [eqFlds] at h
          split at h
          · rename_i hn
            simp only [Op.eqFields, ne_eq, hn, not_true, if_false]
            exact ih h
          · rename_i hn
            simp only [Option.bind_eq_some_iff] at h
            obtain ⟨a, ha, b', hb, e, he, h⟩ := h
            obtain ⟨ca, h1, h2⟩ := run_partOf ha hus
            obtain ⟨cb, h3, h4⟩ := run_partOf hb hvs
            have h5 := run_eqv d f.type a b' e ca cb he h2 h4
            simp only [Op.eqFields, ne_eq, hn, not_false_eq_true, if_true, Sem.run_bind, h1, h3, h5, Result.andThen_ok]
            cases e
            · simp at h; subst h; simp
            · simp only [if_true] at h; simpa using ih h
    · cases h

theorem run_arith {op : BinOp} {k : IntKind} {x y : Int} {v : PV} (h : arith op k x y = some v) (t : TypeId) : ∃ u, (binOp op t (.int k x) (.int k y)).run P w = .ok u w ∧ VR ρ F w v u := by
  unfold arith at h
  split at h
  all_goals first
    | (cases h; refine ⟨_, ?_, .pure (.int _ _)⟩; simp [binOp, Op.intArith, Op.intBits, Op.intCmp]; done)
    | (cases h; refine ⟨_, ?_, .pure (.bool _)⟩; simp [binOp, Op.intArith, Op.intBits, Op.intCmp]; done)
    | (split at h
       · cases h
       · rename_i hy; cases h; refine ⟨_, ?_, .pure (.int _ _)⟩; simp [binOp, Op.intDiv, hy])
    | cases h

theorem run_shiftv {op : BinOp} {k k' : IntKind} {x y : Int} {v : PV} (h : shiftv op k x y = some v) (t : TypeId) : ∃ u, (binOp op t (.int k x) (.int k' y)).run P w = .ok u w ∧ VR ρ F w v u := by
  unfold shiftv at h
  split at h
  · cases h
  · rename_i hy
    split at h
    all_goals first
      | (cases h; refine ⟨_, ?_, .pure (.int _ _)⟩; simp [binOp, Op.shift, hy]; done)
      | cases h

theorem run_strv {op : BinOp} {x y : ByteArray} {v : PV} (h : strv op x y = some v) (t : TypeId) : ∃ u, (binOp op t (.string x) (.string y)).run P w = .ok u w ∧ VR ρ F w v u := by
  unfold strv at h
  split at h
  · split at h
    · rename_i hle
      cases h
      refine ⟨_, ?_, .pure (.str _)⟩
      have : ¬ (((x.size + y.size : Nat) : Int) > IntKind.i64.max) := by omega
      simp only [binOp, Op.stringOp, this, if_false, Sem.run_pure]
    · cases h
  · cases h; refine ⟨_, ?_, .pure (.bool _)⟩; simp [binOp, Op.stringOp]
  · cases h; refine ⟨_, ?_, .pure (.bool _)⟩; simp [binOp, Op.stringOp]
  · cases h

theorem eqGuard_plain {op : BinOp} {t : TypeId} {x y : Operand} {v : PV} {a b : Value} (h : guardT P t v ≠ true) (ha : VR ρ F w v a) (hk : v ≠ .undef) (hi : v ≠ .niliface) :
    (eqGuard op t x y a b).run P w = .ok () w := by
  have other : (∀ cs, a ≠ .agg cs) → a ≠ .nilIface → (eqGuard op t x y a b).run P w = .ok () w := by
    intro h1 h2
    cases a <;> first | (exact absurd rfl (h1 _)) | (exact absurd rfl h2) | (cases op <;> rfl)
  cases v with
  | undef => exact absurd rfl hk
  | niliface => exact absurd rfl hi
  | agg cs =>
    obtain ⟨us, rfl, _⟩ := ha.agg_inv
    have hg : P.eqGuardType P.depth t = false := by simpa [guardT] using h
    cases b <;> first | (exact run_eqGuard_agg w op t x y _ _ hg) | (cases op <;> rfl)
  | bool b => obtain rfl := ha.bool_inv; exact other (by simp) (by simp)
  | int k n => obtain rfl := ha.int_inv; exact other (by simp) (by simp)
  | float k n => obtain rfl := ha.float_inv; exact other (by simp) (by simp)
  | str s => obtain rfl := ha.str_inv; exact other (by simp) (by simp)
  | nilptr => obtain rfl := ha.nilptr_inv; exact other (by simp) (by simp)
  | nilsl => obtain rfl := ha.nilsl_inv; exact other (by simp) (by simp)
  | nilmap => obtain rfl := ha.nilmap_inv; exact other (by simp) (by simp)
  | nilfunc => obtain rfl := ha.nilfunc_inv; exact other (by simp) (by simp)
  | ref a b c => obtain ⟨r, _, rfl⟩ := ha.ref_inv; exact other (by simp) (by simp)
  | pref cs => obtain ⟨b, o, rfl, _⟩ := ha.pref_inv; exact other (by simp) (by simp)
  | psl f es => obtain ⟨sz, b, o, sp, k, rfl, _⟩ := ha.psl_inv; exact other (by simp) (by simp)
  | lsl a b c d e => obtain ⟨r, b, o, k, _, _, rfl, _⟩ := ha.lsl_inv; exact other (by simp) (by simp)
  | mref a => cases ha with | pure h => cases h
  | func f cs => obtain ⟨us, rfl, _⟩ := ha.func_inv; exact other (by simp) (by simp)
  | tuple cs => obtain ⟨us, rfl, _⟩ := ha.tuple_inv; exact other (by simp) (by simp)

theorem eqv_known {d : Nat} {t : TypeId} {x y : PV} {b : Bool} (h : eqv P d t x y = some b) : x ≠ .undef ∧ x ≠ .niliface ∧ y ≠ .undef := by
  cases d with
  | zero => simp [eqv] at h
  | succ d =>
    unfold eqv at h
    split at h <;> first | (cases h; done) | exact ⟨by simp, by simp, by simp⟩

/-- Comparing what is no number, text or float. -/
theorem binOp_other {op : BinOp} (hop : op = .eql ∨ op = .neq) {t : TypeId} {x y : PV} {b : Bool} (h : eqv P 10000 t x y = some b) {cx cy : Value} (hx : VR ρ F w x cx) (hy : VR ρ F w y cy)
    (h1 : ∀ k a k' b, ¬ (x = .int k a ∧ y = .int k' b)) (h2 : ∀ a b, ¬ (x = .str a ∧ y = .str b)) (h3 : ∀ k a k' b, ¬ (x = .float k a ∧ y = .float k' b)) :
    (binOp op t cx cy).run P w = .ok (.bool (if op = .eql then b else !b)) w := by
  have hr := run_eqv (ρ := ρ) (F := F) (w := w) 10000 t x y b cx cy h hx hy
  have he : ∀ (q : Bool), (Op.equal t cx cy).run P w = .ok b w := fun _ => hr
  have g : binOp op t cx cy = (match op with | .eql => (do pure (.bool (← Op.equal t cx cy))) | _ => (do pure (.bool (!(← Op.equal t cx cy))))) := by
    have h4 := h
    unfold eqv at h4
    split at h4
    all_goals first
      | (cases h4; done)
      | (exfalso; exact h1 _ _ _ _ ⟨rfl, rfl⟩)
      | (exfalso; exact h2 _ _ ⟨rfl, rfl⟩)
      | (exfalso; exact h3 _ _ _ _ ⟨rfl, rfl⟩)
      | (obtain rfl := hx.bool_inv; rcases hop with rfl | rfl <;> rfl)
      | (obtain rfl := hx.nilptr_inv; rcases hop with rfl | rfl <;> rfl)
      | (obtain rfl := hx.nilsl_inv; rcases hop with rfl | rfl <;> rfl)
      | (obtain rfl := hx.nilmap_inv; rcases hop with rfl | rfl <;> rfl)
      | (obtain rfl := hx.nilfunc_inv; rcases hop with rfl | rfl <;> rfl)
      | (obtain ⟨r, _, rfl⟩ := hx.ref_inv; rcases hop with rfl | rfl <;> rfl)
      | (obtain ⟨b, o, rfl, _⟩ := hx.pref_inv; rcases hop with rfl | rfl <;> rfl)
      | (obtain ⟨_, _, _, _, _, rfl, _⟩ := hx.psl_inv; rcases hop with rfl | rfl <;> rfl)
      | (obtain ⟨_, _, _, _, _, _, rfl, _⟩ := hx.lsl_inv; rcases hop with rfl | rfl <;> rfl)
      | (cases hx with | pure hx => cases hx)
      | (obtain ⟨_, rfl, _⟩ := hx.func_inv; rcases hop with rfl | rfl <;> rfl)
      | (obtain ⟨_, rfl, _⟩ := hx.agg_inv; rcases hop with rfl | rfl <;> rfl)
  rw [g]
  rcases hop with rfl | rfl <;> simp [Sem.run_bind, he true]

theorem run_binv {op : BinOp} {t : TypeId} {x y v : PV} (h : binv P op t x y = some v) {cx cy : Value} (hx : VR ρ F w x cx) (hy : VR ρ F w y cy) (ox oy : Operand) :
    ∃ u, (do eqGuard op t ox oy cx cy; binOp op t cx cy : Sem Value).run P w = .ok u w ∧ VR ρ F w v u := by
  unfold binv at h
  split at h
  · rename_i k a k' b
    obtain rfl := hx.int_inv
    obtain rfl := hy.int_inv
    have : ∃ u, (binOp op t (.int k a) (.int k' b)).run P w = .ok u w ∧ VR ρ F w v u := by
      split at h
      · exact run_shiftv h t
      · exact run_shiftv h t
      · split at h
        · rename_i hk; subst hk; exact run_arith h t
        · cases h
    obtain ⟨u, h1, h2⟩ := this
    exact ⟨u, by simpa [Sem.run_bind, eqGuard_at_int] using h1, h2⟩
  · obtain rfl := hx.str_inv
    obtain rfl := hy.str_inv
    obtain ⟨u, h1, h2⟩ := run_strv (P := P) (w := w) (ρ := ρ) (F := F) h t
    exact ⟨u, by simpa [Sem.run_bind, eqGuard_at_string] using h1, h2⟩
  · obtain rfl := hx.float_inv
    obtain rfl := hy.float_inv
    split at h
    · rename_i hk
      subst hk
      split at h
      · cases h; refine ⟨_, ?_, .pure (.bool _)⟩; simp [Sem.run_bind, eqGuard_at_float, binOp, Op.floatCmp, Op.floatEq]
      · cases h; refine ⟨_, ?_, .pure (.bool _)⟩; simp [Sem.run_bind, eqGuard_at_float, binOp, Op.floatCmp, Op.floatEq, bne]
      · cases h
    · cases h
  · rename_i h1 h2 h3
    split at h
    · cases h
    · rename_i hg
      split at h
      · simp only [Option.map_eq_some_iff] at h
        obtain ⟨b, hb, rfl⟩ := h
        have hk := eqv_known hb
        refine ⟨_, ?_, .pure (.bool _)⟩
        rw [Sem.run_bind, eqGuard_plain hg hx hk.1 hk.2.1, Result.andThen_ok]
        exact binOp_other (.inl rfl) hb hx hy (fun k a k' b e => h1 k a k' b e.1 e.2) (fun a b e => h2 a b e.1 e.2) (fun k a k' b e => h3 k a k' b e.1 e.2)
      · simp only [Option.map_eq_some_iff] at h
        obtain ⟨b, hb, rfl⟩ := h
        have hk := eqv_known hb
        refine ⟨_, ?_, .pure (.bool _)⟩
        rw [Sem.run_bind, eqGuard_plain hg hx hk.1 hk.2.1, Result.andThen_ok]
        exact binOp_other (.inr rfl) hb hx hy (fun k a k' b e => h1 k a k' b e.1 e.2) (fun a b e => h2 a b e.1 e.2) (fun k a k' b e => h3 k a k' b e.1 e.2)
      · cases h

theorem run_unv {op : UnOp} {x v : PV} (h : unv op x = some v) {cx : Value} (hx : VR ρ F w x cx) : ∃ u, (Op.unary op cx).run P w = .ok u w ∧ VR ρ F w v u := by
  unfold unv at h
  split at h
  · cases h; obtain rfl := hx.int_inv; refine ⟨_, ?_, .pure (.int _ _)⟩; simp [Op.unary, Op.intArith]
  · cases h; obtain rfl := hx.int_inv; refine ⟨_, ?_, .pure (.int _ _)⟩; simp [Op.unary, Op.intBits]
  · cases h; obtain rfl := hx.bool_inv; refine ⟨_, ?_, .pure (.bool _)⟩; simp [Op.unary]
  · cases h

end
end Go.Pvm
