/- Part of the proof: the fixed small question about a device. -/
import Derived.Test.YtgcfmhlgbakdfaaDevJ
set_option linter.unusedSimpArgs false
set_option linter.unusedVariables false
set_option maxRecDepth 100000
namespace Go.Pvm.S
open Go.Pvm Go.Proofs

theorem partB (e : PV) : partOf Try.prog 5 [e] 0 = some e := by kernel_rfl
theorem szB : szOf Try.prog 5 = some 1 := by kernel_rfl
section
variable {σ τ : Store} {v u : PV} {l b : By} {g g' : Nat → Nat} {d : Dv}
theorem idxQ (h : QS RB σ 1 v l) {i : Nat} (hi : i < l.length) : ∃ r, indexAddrv Try.prog 30 v (.int .i64 (i : Nat)) = some r ∧ loadv Try.prog σ 5 r = some (.int .u8 (((l.getD i 0).toNat : Nat) : Int)) := by
  have hw := List.getElem?_eq_getElem hi
  obtain ⟨r, e, h1, _, h2, rfl⟩ := h.idx TB okB hw .i64
  have hg : l.getD i 0 = l[i] := by rw [List.getD_eq_getElem?_getD, hw]; rfl
  exact ⟨r, h1, by rw [h2, hg]; exact partB _⟩
/-- A byte is written in place. -/
theorem Wr.set (h : Wr RB σ 1 v l) {i : Nat} (hi : i < l.length) (c : UInt8) : ∃ r τ, indexAddrv Try.prog 30 v (.int .i64 (i : Nat)) = some r ∧ storev Try.prog σ 5 r (.int .u8 ((c.toNat : Nat) : Int)) = some τ ∧ Wr RB τ 1 v (l.set i c) ∧ Mod σ τ (tops v) := by
  obtain ⟨p, cap, es, rfl, h1, h2, h3, h4⟩ := h
  have hel := h3.len
  have hk := List.getElem?_eq_getElem (show 0 + i < es.length by omega)
  have hsz : es[0 + i].length = 1 := (okB.els h3).len _ (List.getElem_mem _)
  refine ⟨_, _, ia_lsl TB.u TB.el.hsz hi .i64, stRef szB h2 (Nat.zero_le _) hk hsz rfl rfl, ⟨p, cap, _, by rw [List.length_set], ?_, put_obj _ _ _, ?_, h4⟩, Mod.put (.head _)⟩
  · rw [List.length_set]; exact h1
  · rw [Nat.zero_add]
    exact h3.set (show RB [.int .u8 ((c.toNat : Nat) : Int)] c from rfl) i
theorem lpFull (c : UInt8) : ∀ (k i : Nat) (σ : Store) (l : By), i + k = l.length → l.length ≤ 1000000 → Wr RB σ 1 v l → ∃ τ, loopω cfg 10 lc10_3 (st10_3 ((c.toNat : Nat) : Int) v (i : Nat)) σ = some (.exit 0, out10_3 v, τ) ∧ Wr RB τ 1 v (l.take i ++ List.replicate k c)
  | 0, i, σ, l, hi, hl, h => by
    refine ⟨σ, loopω_ofK ((lq10_3 _ _ _ _ _ _).trans ?_), ?_⟩
    · simp only [h.q.len TB, bind_some', asInt_int, nltN (show l.length ≤ i by omega), Bool.false_eq_true, if_false]
    · rw [List.take_of_length_le (by omega), List.replicate_zero, List.append_nil]; exact h
  | k + 1, i, σ, l, hi, hl, h => by
    obtain ⟨r, τ, q1, q2, q3, q4⟩ := Wr.set h (show i < l.length by omega) c
    have ev := lq10_3 (callω cfg) (loopω cfg) σ ((c.toNat : Nat) : Int) v (i : Nat)
    simp only [h.q.len TB, bind_some', asInt_int, ltN (show i < l.length by omega), if_true, q1, q2, wrap_succ (show i < 4611686018427387904 by omega)] at ev
    obtain ⟨τ2, r1, r2⟩ := lpFull c k (i + 1) τ (l.set i c) (by rw [List.length_set]; omega) (by rw [List.length_set]; exact hl) q3
    refine ⟨τ2, loopω_ofK (ev.trans r1), ?_⟩
    have hset : (l.set i c).take (i + 1) = l.take i ++ [c] := by
      rw [List.take_add_one, List.getElem?_set_self (by omega), List.take_set_of_le (Nat.le_refl _)]
      rfl
    rw [hset, List.append_assoc] at r2
    exact r2
theorem cEFull {c2 : Cfg} (hm : c2.mode 10 = .pure) (hP : c2.P = Try.prog) (c : UInt8) (σ : Store) : ∃ v, callE c2 (callω cfg) 10 [.int .u8 ((c.toNat : Nat) : Int)] σ = some (v, σ) ∧ IsS RB v (List.replicate 512 c) := by
  have ev := eq10 (callω cfg) (loopω cfg) .empty ((c.toNat : Nat) : Int)
  have hms := msB .empty 512 (by decide)
  have hn : (((512 : Nat) : Nat) : Int) = 512 := rfl
  rw [hn] at hms
  have hw : Wr RB (Store.empty.push (.cells 0 (List.replicate 512 [.int .u8 0]))) 1 (.lsl Store.empty.next 1 0 512 (some 512)) (List.replicate 512 (0 : UInt8)) :=
    ⟨_, some 512, _, by rw [List.length_replicate], .inr (by rw [List.length_replicate]), push_obj _ _, All2.replicate (show RB [PV.int .u8 0] (0 : UInt8) from rfl) _, Nat.lt_succ_self _⟩
  obtain ⟨τ, r1, r2⟩ := lpFull c 512 0 _ _ (by rw [List.length_replicate]) (by rw [List.length_replicate]; decide) hw
  rw [natz] at r1
  simp only [hms, bind_some', r1, onEx_exit, if_true, out10_3_3] at ev
  rw [List.take_zero, List.nil_append] at r2
  exact ⟨_, callE_pure hm (by rw [hP]; kernel_rfl) rfl (pureω_of (hT _) ev rfl) (.inr rfl), r2.q.frz okB 6⟩

/-! ### Awake -/
def awakeD : Dv := (wrF 0 (List.replicate 512 2) 4 0 (wrF 0 (List.replicate 512 1) 4 0 (Dv.new 1)).sync).crash [true, false] 0
theorem awakeP : awakeD.seen.pg.getD 0 0 = 2 ∧ awakeD.seen.pg.getD 128 0 = 1 ∧ awakeD.seen.pg.getD 256 0 = 2 ∧ awakeD.seen.pg.getD 511 0 = 1 := by decide +kernel
theorem bsBo2 (σ : Store) : buildSlv Try.prog σ 23 2 [(0, .bool true), (1, .bool false)] = some (.lsl σ.next 1 0 2 (some 2), σ.push (.cells 0 [[.bool true], [.bool false]])) := by kernel_rfl
theorem neNilL (id : Nat) : binv Try.prog .eql 24 (.ref id 0 0) .nilptr = some (.bool false) := by kernel_rfl

theorem spAwake : pureω cfg 8 [] = some (.bool true) := by
  have ev := eq8 (callω cfg) (loopω cfg) .empty
  obtain ⟨g1, τ1, a1, a2, a3⟩ := spNew (P := 1) (by omega) (fun _ => 7) .empty
  have i0 := Inv.new (P := 1) (by omega)
  have c1 : callE cfg (callω cfg) 7 [.int .i64 1] .empty = some (.tuple [.ref (Store.empty.next + 2) 0 0, .int .i64 0], τ1) := by rw [callE_live rfl (by kernel_rfl)]; exact a1
  generalize Store.empty.next + 2 = id at a2 c1
  obtain ⟨v1, f1, f2⟩ := cEFull (c2 := cfg) rfl rfl 1 τ1
  have l512 : ∀ c : UInt8, (List.replicate 512 c).length = 512 := fun c => List.length_replicate
  obtain ⟨g2, τ2, b1, b2, b3⟩ := spWrite f2 a2 (P := 1) (by omega) i0.pl i0.arm (by show 0 + 4 ≤ _; omega) 0 (by rw [l512]; omega)
  rw [if_pos (by omega), if_pos (l512 1)] at b1
  rw [if_pos ⟨by omega, by omega, l512 1⟩] at b2
  have i1 : Inv 1 0 (wrF 0 (List.replicate 512 1) 4 0 (Dv.new 1)) := Inv.wrF (by omega) (l512 1) 4 0 _ (by omega) i0
  have k1 := wrF_ws (page := 0) (b := List.replicate 512 1) 4 0 (Dv.new 1)
  have c2 : callE cfg (callω cfg) 9 [.ref id 0 0, .int .i64 0, v1] τ1 = some (.int .i64 0, τ2) := by rw [callE_live rfl (by kernel_rfl)]; exact b1
  have e1 : (Dv.new 1).ws.length = 0 := rfl
  have e2 : (Dv.new 1).ts = [] := rfl
  obtain ⟨g3, τ3, s1, s2, s3⟩ := spSync b2 (P := 1) (by omega) i1.kl i1.ws i1.ts (by show (wrF 0 _ 4 0 _).ws.length ≤ _; omega) (by show (wrF 0 _ 4 0 _).ts.length ≤ _; rw [k1.2.1, e2]; exact Nat.zero_le _)
  have c3 : callE cfg (callω cfg) 11 [.ref id 0 0] τ2 = some (.tuple [], τ3) := by rw [callE_live rfl (by kernel_rfl)]; exact s1
  have s2 : DevS g3 τ3 id (wrF 0 (List.replicate 512 1) 4 0 (Dv.new 1)).sync := s2
  have i2 := i1.sync
  have k2 : (wrF 0 (List.replicate 512 1) 4 0 (Dv.new 1)).sync.ws.length ≤ 4 ∧ (wrF 0 (List.replicate 512 1) 4 0 (Dv.new 1)).sync.ts.length = 0 := by
    unfold Dv.sync
    split
    · exact ⟨by omega, by rw [k1.2.1, e2]; rfl⟩
    · exact ⟨Nat.zero_le _, rfl⟩
  obtain ⟨v2, f3, f4⟩ := cEFull (c2 := cfg) rfl rfl 2 τ3
  obtain ⟨g4, τ4, w1, w2, w3⟩ := spWrite f4 s2 (P := 1) (by omega) i2.pl i2.arm (by omega) 0 (by rw [l512]; omega)
  rw [if_pos (by omega), if_pos (l512 2)] at w1
  rw [if_pos ⟨by omega, by omega, l512 2⟩] at w2
  have w2 : DevS g4 τ4 id (wrF 0 (List.replicate 512 2) 4 0 (wrF 0 (List.replicate 512 1) 4 0 (Dv.new 1)).sync) := w2
  have i3 : Inv 1 0 (wrF 0 (List.replicate 512 2) 4 0 (wrF 0 (List.replicate 512 1) 4 0 (Dv.new 1)).sync) := Inv.wrF (by omega) (l512 2) 4 0 _ (by omega) i2
  have k3 := wrF_ws (page := 0) (b := List.replicate 512 2) 4 0 (wrF 0 (List.replicate 512 1) 4 0 (Dv.new 1)).sync
  have c4 : callE cfg (callω cfg) 9 [.ref id 0 0, .int .i64 0, v2] τ3 = some (.int .i64 0, τ4) := by rw [callE_live rfl (by kernel_rfl)]; exact w1
  obtain ⟨x1, x2, x3⟩ := w2.box (.cells 0 [[.bool true], [.bool false]])
  have hpat : QS RBo (τ4.push (.cells 0 [[.bool true], [.bool false]])) 1 (.lsl τ4.next 1 0 2 (some 2)) [true, false] := (AxS.fresh (R := RBo) (l := [true, false]) (.cons rfl (.cons rfl .nil)) τ4 1 (n := 2) rfl).q
  obtain ⟨g5, τ5, y1, y2, y3⟩ := spCrash x1 hpat (fun j hj => by rw [List.mem_singleton.1 hj, x3]; exact Nat.le_refl _) (P := 1) ⟨by omega, by omega⟩ i3.kl i3.ws i3.ts (by omega) (by rw [k3.2.1]; omega) (n := 0) ⟨by decide, by decide⟩ (i3.crashFit 0)
  have y2 : DevS g5 τ5 id awakeD := y2
  have i4 : Inv 1 0 awakeD := i3.crash [true, false] 0
  have c5 : callE cfg (callω cfg) 13 [.ref id 0 0, .lsl τ4.next 1 0 2 (some 2), .int .i64 0] (τ4.push (.cells 0 [[.bool true], [.bool false]])) = some (.tuple [], τ5) := by rw [callE_live rfl (by kernel_rfl)]; exact y1
  obtain ⟨g6, τ6, u, z1, z2, _, z3, _⟩ := spRead y2 (P := 1) (by omega) i4.pl (page := 0) (by omega)
  have c6 : callE cfg (callω cfg) 14 [.ref id 0 0, .int .i64 0] τ5 = some (.tuple [u, .int .i64 0], τ6) := by rw [callE_live rfl (by kernel_rfl)]; exact z1
  have hz : (awakeD.seen.pg.drop (0 * 512)).take 512 = awakeD.seen.pg := by rw [Nat.zero_mul, List.drop_zero, List.take_of_length_le (by rw [i4.pl]; omega)]
  rw [hz] at z2
  obtain ⟨p1, p2, p3, p4⟩ := awakeP
  have hl := i4.pl
  obtain ⟨r1, q1, q1'⟩ := idxQ z2 (i := 0) (by omega)
  obtain ⟨r2, q2, q2'⟩ := idxQ z2 (i := 128) (by omega)
  obtain ⟨r3, q3, q3'⟩ := idxQ z2 (i := 256) (by omega)
  obtain ⟨r4, q4, q4'⟩ := idxQ z2 (i := 511) (by omega)
  rw [p1] at q1'; rw [p2] at q2'; rw [p3] at q3'; rw [p4] at q4'
  have f1 : callE cfg (callω cfg) 10 [.int .u8 1] τ1 = some (v1, τ1) := f1
  have f3 : callE cfg (callω cfg) 10 [.int .u8 2] τ3 = some (v2, τ3) := f3
  have q1 : indexAddrv Try.prog 30 u (.int .i64 0) = some r1 := q1
  have q2 : indexAddrv Try.prog 30 u (.int .i64 128) = some r2 := q2
  have q3 : indexAddrv Try.prog 30 u (.int .i64 256) = some r3 := q3
  have q4 : indexAddrv Try.prog 30 u (.int .i64 511) = some r4 := q4
  have q1' : loadv Try.prog τ6 5 r1 = some (.int .u8 2) := q1'
  have q2' : loadv Try.prog τ6 5 r2 = some (.int .u8 1) := q2'
  have q3' : loadv Try.prog τ6 5 r3 = some (.int .u8 2) := q3'
  have q4' : loadv Try.prog τ6 5 r4 = some (.int .u8 1) := q4'
  have hlen : pureB Try.prog .len [30] [u] = some (.int .i64 512) := by rw [z2.len TB, hl]; rfl
  have n0 : ((0 : Int) != 0) = false := by decide
  have n1 : ((0 : Int) == 0) = true := by decide
  have n2 : ((512 : Int) == 512) = true := by decide
  have n3 : ((2 : Int) == 2) = true := by decide
  have n4 : ((1 : Int) == 1) = true := by decide
  simp only [c1, bind_some', tupv_0, tupv_1, asInt_int, n0, Bool.false_eq_true, if_false, neNilL, asBool_bool, f1, c2, c3, f3, c4, bsBo2, c5, c6, n1, if_true, hlen, n2, q1, q1', n3, q2, q2', n4, q3, q3', q4, q4'] at ev
  exact pureω_of (hT _) ev rfl
theorem cEAwake {c2 : Cfg} (hm : c2.mode 8 = .pure) (hP : c2.P = Try.prog) (σ : Store) : callE c2 (callω cfg) 8 [] σ = some (.bool true, σ) :=
  callE_pure hm (by rw [hP]; kernel_rfl) rfl spAwake (.inl rfl)
end
end Go.Pvm.S
