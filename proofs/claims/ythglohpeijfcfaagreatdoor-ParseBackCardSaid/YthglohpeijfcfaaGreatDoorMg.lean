import Derived.Test.YthglohpeijfcfaaGreatDoorMf
import Derived.Shelf.SlSortCmp.WholeK
import Derived.Shelf.Sort.Plain
import Derived.Test.YthglohpeijfcfaaGreatDoorProg
set_option linter.unusedVariables false
set_option linter.unusedSimpArgs false
set_option linter.unusedSectionVars false
set_option linter.constructorNameAsVariable false
/- What a line adds at the reference's reader. -/
namespace Go.Proofs.Yph
open Go Go.Am
set_option maxRecDepth 20000
set_option maxHeartbeats 4000000
open T (Tok tokC tokV spotV TokS)
open V (SeatR PoleR VenR seatC poleC intC inB IntS)
open F (FR ChA GlobOK)
def RAddP (h0 : Heap) (r : Rd) (t0 : Tok) (rest : List Tok) (ks : List Int) (br : Nat) (v : Value) (h' : Heap) : Prop :=
  v = .bool (addR r t0 rest).2 ∧ Ext h0 h' ∧ ((addR r t0 rest).2 = true → RfE h0 h' (addR r t0 rest).1 ks br)
theorem tok_all {h : Heap} {b off c : Nat} {w : Bool} {cells : List Value} {ts : List Tok} {n : Nat} (H : TokS h (.slice (some ⟨b, off, none⟩) n c) ts) (hf : h.f b = .row w 84 cells) {i : Nat} {t : Tok} (hi : ts[i]? = some t) :
    (∃ r, cells.drop (off + i * 5) = .int .i64 t.kind :: .int .i64 t.n :: .int .i64 t.line :: .int .i64 t.col :: .string (B t.text) :: r) ∧ (∃ r, cells.drop (off + i * 5 + 1) = .int .i64 t.n :: r) ∧ off + i * 5 + 5 ≤ cells.length := by
  obtain ⟨_, b', off', w', cells', r', q1, q2, q3, q4, q5⟩ := H.at hi
  simp only [Option.some.injEq, Addr.mk.injEq, and_true] at q1
  obtain ⟨rfl, rfl⟩ := q1
  rw [hf] at q2
  simp only [Blk.row.injEq, true_and] at q2
  obtain ⟨rfl, rfl⟩ := q2
  obtain ⟨p0, p1, p4⟩ := tok_drop q3
  exact ⟨⟨_, p0⟩, ⟨_, p1⟩, q4⟩
theorem own_ne2 {α : Type} {e : TypeId} {enc : α → List Value} {h0 h : Heap} {o : Option Nat} {xs : List α} {v : Value} (H : F.OwO e enc h0 h o xs v) {b : Nat} {w : Bool} {e' : TypeId} {cs : List Value} (hb : h.f b = .row w e' cs) (he : e ≠ e') : o ≠ some b := by
  rintro rfl
  have h1 := H.2.1
  rw [hb] at h1
  simp only [Blk.row.injEq] at h1
  exact he h1.2.1.symm
/-- the reference's own block, written -/
theorem RfH.put {h0 h : Heap} {r : Rd} {ks : List Int} {br : Nat} {os op ok o1 o2 o3 o4 : Option Nat} {ss sp sk s1 s2 s3 s4 : Value} (R : RfH h0 h r ks br os op ok o1 o2 o3 o4 ss sp sk s1 s2 s3 s4) (gap radius : Int) (rad : Bool) :
    RfH h0 (h.set br (.row true 79 [ss, .int .i64 gap, .int .i64 radius, sk, sp, .int .i64 (gN gap), .int .i64 (rN rad), s1, s2, s3, s4])) { r with gap := gap, radius := radius, rad := rad } ks br os op ok o1 o2 o3 o4 ss sp sk s1 s2 s3 s4 :=
  ⟨by simp, R.lo, R.hi, R.seats.setNe _ (own_ne R.seats R.row (by decide)), R.poles.setNe _ (own_ne R.poles R.row (by decide)), R.kills.setNe _ (own_ne R.kills R.row (by decide)), R.rows.setNe _ (own_ne R.rows R.row (by decide)), R.xs.setNe _ (own_ne R.xs R.row (by decide)), R.words.setNe _ (own_ne R.words R.row (by decide)), R.firsts.setNe _ (own_ne R.firsts R.row (by decide)), R.ak1, R.ak2, R.a12, R.a34, R.nil⟩
/-- two slices have grown -/
structure Two (h G : Heap) (br : Nat) (p1 p2 : Option Nat) (e : TypeId) (X1 X2 : List Value) (y1 y2 : Nat) : Prop where
  lo1 : h.n ≤ y1
  lo2 : h.n ≤ y2
  ne : y1 ≠ y2
  hi1 : y1 < G.n
  hi2 : y2 < G.n
  n : h.n ≤ G.n
  g : G.g = h.g
  same : ∀ x, x < h.n → x ≠ br → p1 ≠ some x → p2 ≠ some x → G.f x = h.f x
  r1 : G.f y1 = .row true e X1
  r2 : G.f y2 = .row true e X2
theorem Two.ext {h0 h G : Heap} {br : Nat} {p1 p2 : Option Nat} {e : TypeId} {X1 X2 : List Value} {y1 y2 : Nat} (T : Two h G br p1 p2 e X1 X2 y1 y2) (E : Ext h0 h) (hb : h0.n ≤ br) (h1 : ∀ b, p1 = some b → h0.n ≤ b) (h2 : ∀ b, p2 = some b → h0.n ≤ b) : Ext h0 G :=
  ⟨T.g.trans E.g, Nat.le_trans E.n T.n, fun b hlt => by
    rw [T.same b (Nat.lt_of_lt_of_le hlt E.n) (by omega) (fun q => by have := h1 b q; omega) (fun q => by have := h2 b q; omega), E.f b hlt]⟩
theorem Two.own {h0 h G : Heap} {br : Nat} {p1 p2 : Option Nat} {e : TypeId} {X1 X2 : List Value} {y1 y2 : Nat} (T : Two h G br p1 p2 e X1 X2 y1 y2) {α : Type} {e' : TypeId} {enc : α → List Value} {o : Option Nat} {xs : List α} {v : Value} (H : F.OwO e' enc h0 h o xs v)
    (hb : o ≠ some br) (h1 : ∀ b, o = some b → p1 ≠ some b) (h2 : ∀ b, o = some b → p2 ≠ some b) : F.OwO e' enc h0 G o xs v := by
  refine own_same H (fun b q => ?_) T.n
  subst q
  exact T.same b H.2.2.2 (fun q => hb (by rw [q])) (h1 b rfl) (h2 b rfl)
theorem own_lt {α : Type} {e : TypeId} {enc : α → List Value} {h0 h : Heap} {o : Option Nat} {xs : List α} {v : Value} (H : F.OwO e enc h0 h o xs v) : ∀ b, o = some b → h0.n ≤ b ∧ b < h.n := by
  rintro b rfl
  exact ⟨H.2.2.1, H.2.2.2⟩
theorem RfH.kill {h0 h : Heap} {r : Rd} {ks : List Int} {br : Nat} {os op ok o1 o2 o3 o4 : Option Nat} {ss sp sk s1 s2 s3 s4 : Value} (R : RfH h0 h r ks br os op ok o1 o2 o3 o4 ss sp sk s1 s2 s3 s4) (E0 : Ext h0 h) {G G2 : Heap} {y1 y2 y3 y4 n : Nat} (kq : KillR) (hn : n = r.kills.length + 1)
    {X1 X2 X3 X4 : List Value} (T1 : Two h G br o1 o2 3 X1 X2 y1 y2) (T2 : Two G G2 br o3 o4 27 X3 X4 y3 y4) (x1 : X1 = (r.kills.map (·.row)).flatMap intC ++ intC kq.row) (x2 : X2 = (r.kills.map (·.x)).flatMap intC ++ intC kq.x)
    (x3 : X3 = (r.kills.map fun k => (k.line, k.col)).flatMap spC ++ spC (kq.line, kq.col)) (x4 : X4 = (r.kills.map fun k => (k.rline, k.rcol)).flatMap spC ++ spC (kq.rline, kq.rcol))
    (hrow : G2.f br = .row true 79 [ss, .int .i64 r.gap, .int .i64 r.radius, sk, sp, .int .i64 (gN r.gap), .int .i64 (rN r.rad), .slice (some ⟨y1, 0, none⟩) n n, .slice (some ⟨y2, 0, none⟩) n n, .slice (some ⟨y3, 0, none⟩) n n, .slice (some ⟨y4, 0, none⟩) n n]) :
    Ext h0 G2 ∧ RfE h0 G2 { r with kills := r.kills ++ [kq] } ks br := by
  have l1 := own_lt R.rows
  have l2 := own_lt R.xs
  have l3 := own_lt R.words
  have l4 := own_lt R.firsts
  have lk := own_lt R.kills
  have hi := R.hi
  have lo := R.lo
  have E1 : Ext h0 G := T1.ext E0 lo (fun b q => (l1 b q).1) (fun b q => (l2 b q).1)
  have E2 : Ext h0 G2 := T2.ext E1 lo (fun b q => (l3 b q).1) (fun b q => (l4 b q).1)
  have q1 := T1.lo1
  have q2 := T1.lo2
  have q3 := T2.lo1
  have q4 := T2.lo2
  have q5 := T1.n
  have q6 := T2.n
  have q7 := T1.hi1
  have q8 := T1.hi2
  have e0n := E0.n
  have wG := T1.own R.words (own_ne R.words R.row (by decide)) (own_sep R.rows R.words (by decide)) (own_sep R.xs R.words (by decide))
  have fG := T1.own R.firsts (own_ne R.firsts R.row (by decide)) (own_sep R.rows R.firsts (by decide)) (own_sep R.xs R.firsts (by decide))
  have sG := T1.own R.seats (own_ne R.seats R.row (by decide)) (own_sep R.rows R.seats (by decide)) (own_sep R.xs R.seats (by decide))
  have pG := T1.own R.poles (own_ne R.poles R.row (by decide)) (own_sep R.rows R.poles (by decide)) (own_sep R.xs R.poles (by decide))
  have kG := T1.own R.kills (own_ne R.kills R.row (by decide)) R.ak1 R.ak2
  have s2 := T2.own sG (own_ne R.seats R.row (by decide)) (own_sep wG sG (by decide)) (own_sep fG sG (by decide))
  have p2 := T2.own pG (own_ne R.poles R.row (by decide)) (own_sep wG pG (by decide)) (own_sep fG pG (by decide))
  have k2 := T2.own kG (own_ne R.kills R.row (by decide)) (own_sep wG kG (by decide)) (own_sep fG kG (by decide))
  have r1 : G2.f y1 = .row true 3 X1 := by rw [T2.same y1 q7 (by omega) (fun q => by have := l3 _ q; omega) (fun q => by have := l4 _ q; omega)]; exact T1.r1
  have r2 : G2.f y2 = .row true 3 X2 := by rw [T2.same y2 q8 (by omega) (fun q => by have := l3 _ q; omega) (fun q => by have := l4 _ q; omega)]; exact T1.r2
  refine ⟨E2, os, op, ok, some y1, some y2, some y3, some y4, ss, sp, sk, _, _, _, _, ⟨hrow, lo, by omega, s2, p2, k2, ⟨by simp [hn], ?_, by omega, by omega⟩, ⟨by simp [hn], ?_, by omega, by omega⟩, ⟨by simp [hn], ?_, by omega, T2.hi1⟩, ⟨by simp [hn], ?_, by omega, T2.hi2⟩, fun b q => by have := lk b q; simp; omega, fun b q => by have := lk b q; simp; omega, fun b q => by simp at q; subst q; have := T1.ne; simp; omega, fun b q => by simp at q; subst q; have := T2.ne; simp; omega, fun q => by simp at q⟩⟩
  · rw [r1, x1]; simp
  · rw [r2, x2]; simp
  · rw [T2.r1, x3]; simp
  · rw [T2.r2, x4]; simp
theorem RfH.killP {h0 h : Heap} {r : Rd} {ks : List Int} {br : Nat} {os op ok o1 o2 o3 o4 : Option Nat} {ss sp sk s1 s2 s3 s4 : Value} (R : RfH h0 h r ks br os op ok o1 o2 o3 o4 ss sp sk s1 s2 s3 s4) (E0 : Ext h0 h) {t0 : Tok} {rest : List Tok} {v : Value} {bb : Bool} {G G2 : Heap} (y1 y2 y3 y4 n : Nat) (kq : KillR)
    {X1 X2 : List Value} (hres : addR r t0 rest = ({ r with kills := r.kills ++ [kq] }, bb)) (hv : v = .bool bb) (hn : n = r.kills.length + 1) (T1 : Two h G br o1 o2 3 X1 X2 y1 y2) (x1 : X1 = (r.kills.map (·.row)).flatMap intC ++ intC kq.row) (x2 : X2 = (r.kills.map (·.x)).flatMap intC ++ intC kq.x)
    (T2 : Two G G2 br o3 o4 27 ((r.kills.map fun k => (k.line, k.col)).flatMap spC ++ spC (kq.line, kq.col)) ((r.kills.map fun k => (k.rline, k.rcol)).flatMap spC ++ spC (kq.rline, kq.rcol)) y3 y4)
    (hrow : G2.f br = .row true 79 [ss, .int .i64 r.gap, .int .i64 r.radius, sk, sp, .int .i64 (gN r.gap), .int .i64 (rN r.rad), .slice (some ⟨y1, 0, none⟩) n n, .slice (some ⟨y2, 0, none⟩) n n, .slice (some ⟨y3, 0, none⟩) n n, .slice (some ⟨y4, 0, none⟩) n n]) :
    RAddP h0 r t0 rest ks br v G2 := by
  obtain ⟨q1, q2⟩ := R.kill E0 kq hn T1 T2 x1 x2 rfl rfl hrow
  exact ⟨by rw [hres, hv], q1, fun _ => by rw [hres]; exact q2⟩
def M63 (h : Heap) (br : Nat) (p1 p2 : Option Nat) (X1 X2 : List Value) (n : Nat) (R79 : Value → Value → List Value) (tv : Value) (σ : St) : Prop := ∃ y1 y2, Two h σ.m.h br p1 p2 3 X1 X2 y1 y2 ∧
  σ.m.h.f br = .row true 79 (R79 (.slice (some ⟨y1, 0, none⟩) n n) (.slice (some ⟨y2, 0, none⟩) n n)) ∧ σ.t.get 0 = some (.pointer (some ⟨br, 0, none⟩)) ∧ σ.t.get 2 = some tv
theorem RfH.poleP {h0 h : Heap} {r : Rd} {ks : List Int} {br : Nat} {os op ok o1 o2 o3 o4 : Option Nat} {ss sp sk s1 s2 s3 s4 : Value} (R : RfH h0 h r ks br os op ok o1 o2 o3 o4 ss sp sk s1 s2 s3 s4) (E0 : Ext h0 h) {t0 : Tok} {rest : List Tok} {v : Value} {bb : Bool} (pq : PoleR) {cells : List Value} (hc : cells = r.poles.flatMap poleC ++ poleC pq)
    (hres : addR r t0 rest = ({ r with poles := r.poles ++ [pq] }, bb)) (hv : v = .bool bb) :
    RAddP h0 r t0 rest ks br v ((growH h op (.row true 93 (poleC pq)) (.row true 93 cells)).set br (.row true 79 [ss, .int .i64 r.gap, .int .i64 r.radius, sk, .slice (some ⟨h.n + 1, 0, none⟩) (r.poles.length + 1) (r.poles.length + 1), .int .i64 (gN r.gap), .int .i64 (rN r.rad), s1, s2, s3, s4])) := by
  have hi := R.hi
  refine ⟨by rw [hres, hv], ext_grow E0 (own_ge R.poles) _ _ R.lo _, fun _ => ?_⟩
  rw [hres]
  exact ⟨os, some (h.n + 1), ok, o1, o2, o3, o4, _, _, _, _, _, _, _, ⟨by rw [f_set, if_pos rfl], R.lo, by show br < (growH h op _ _).n; rw [grow_n]; omega, own_other R.seats _ _ _ (own_sep R.seats R.poles (by decide)) (own_ne R.seats R.row (by decide)), own_grow R.poles E0.n _ pq hc hi _,
    own_other R.kills _ _ _ (own_sep R.kills R.poles (by decide)) (own_ne R.kills R.row (by decide)), own_other R.rows _ _ _ (own_sep R.rows R.poles (by decide)) (own_ne R.rows R.row (by decide)), own_other R.xs _ _ _ (own_sep R.xs R.poles (by decide)) (own_ne R.xs R.row (by decide)),
    own_other R.words _ _ _ (own_sep R.words R.poles (by decide)) (own_ne R.words R.row (by decide)), own_other R.firsts _ _ _ (own_sep R.firsts R.poles (by decide)) (own_ne R.firsts R.row (by decide)), R.ak1, R.ak2, R.a12, R.a34, R.nil⟩⟩
theorem RfH.seatP {h0 h : Heap} {r : Rd} {ks : List Int} {br : Nat} {os op ok o1 o2 o3 o4 : Option Nat} {ss sp sk s1 s2 s3 s4 : Value} (R : RfH h0 h r ks br os op ok o1 o2 o3 o4 ss sp sk s1 s2 s3 s4) (E0 : Ext h0 h) {t0 : Tok} {rest : List Tok} {v : Value} {bb : Bool} (sq : SeatR) {cells : List Value} (hc : cells = r.seats.flatMap seatC ++ seatC sq)
    (hres : addR r t0 rest = ({ r with seats := r.seats ++ [sq] }, bb)) (hv : v = .bool bb) :
    RAddP h0 r t0 rest ks br v ((growH h os (.row true 57 (seatC sq)) (.row true 57 cells)).set br (.row true 79 [.slice (some ⟨h.n + 1, 0, none⟩) (r.seats.length + 1) (r.seats.length + 1), .int .i64 r.gap, .int .i64 r.radius, sk, sp, .int .i64 (gN r.gap), .int .i64 (rN r.rad), s1, s2, s3, s4])) := by
  have hi := R.hi
  refine ⟨by rw [hres, hv], ext_grow E0 (own_ge R.seats) _ _ R.lo _, fun _ => ?_⟩
  rw [hres]
  exact ⟨some (h.n + 1), op, ok, o1, o2, o3, o4, _, _, _, _, _, _, _, ⟨by rw [f_set, if_pos rfl], R.lo, by show br < (growH h os _ _).n; rw [grow_n]; omega, own_grow R.seats E0.n _ sq hc hi _, own_other R.poles _ _ _ (own_sep R.poles R.seats (by decide)) (own_ne R.poles R.row (by decide)),
    own_other R.kills _ _ _ (own_sep R.kills R.seats (by decide)) (own_ne R.kills R.row (by decide)), own_other R.rows _ _ _ (own_sep R.rows R.seats (by decide)) (own_ne R.rows R.row (by decide)), own_other R.xs _ _ _ (own_sep R.xs R.seats (by decide)) (own_ne R.xs R.row (by decide)),
    own_other R.words _ _ _ (own_sep R.words R.seats (by decide)) (own_ne R.words R.row (by decide)), own_other R.firsts _ _ _ (own_sep R.firsts R.seats (by decide)) (own_ne R.firsts R.row (by decide)), R.ak1, R.ak2, R.a12, R.a34, R.nil⟩⟩
def MS63 (H : Heap) (br : Nat) (sq : SeatR) (σ : St) : Prop := σ.m.h = H ∧ σ.t.get 0 = some (.pointer (some ⟨br, 0, none⟩)) ∧ σ.t.get 7 = some (.pointer (some ⟨7, 0, some 0⟩)) ∧ σ.m.x.look 7 = some (57, [.int .i64 sq.row, .int .i64 sq.x, .int .i64 sq.y, .int .i64 sq.kind])
theorem radd_ok (h0 h : Heap) (r : Rd) (t0 : Tok) (rest : List Tok) (bs : List Nat) (hb : bnds t0.text = some bs) (hl : rest.length = bs.length) (hm : numMay bs rest = none) (ks : List Int) (br : Nat) (tv : Value)
    (E0 : Ext h0 h) (R : RfE h0 h r ks br) (hr : rdSmall r) (ht : TokS h tv (t0 :: rest)) : ACalls PP 63 [.pointer (some ⟨br, 0, none⟩), .string (B t0.text), tv] h (RAddP h0 r t0 rest ks br) := by
  refine acalls_of_vc mix fn63 bodyEq63 rfl (by show 3 ≤ 192; decide) ok63 ?_
  simp only [body63, Tryz.f63]
  obtain ⟨os, op, ok, o1, o2, o3, o4, ss, sp, sk, s1, s2, s3, s4, R⟩ := R
  obtain ⟨ad, c, rfl, _⟩ := id ht
  obtain ⟨_, bt, off, wt, cells, r0, rfl, e2, e3, e4, e5⟩ := ht.at (i := 0) (t := t0) rfl
  have hta := fun i t hi => tok_all ht e2 (i := i) (t := t) hi
  have hbr := R.row
  obtain ⟨⟨_, d0⟩, _, l0⟩ := hta 0 t0 rfl
  rcases rest_cases hb hl with ⟨hw, a, rfl⟩ | ⟨hw, a, b, rfl⟩ | ⟨hw, a, b, c', rfl⟩
  · obtain ⟨⟨_, a0⟩, ⟨_, a1⟩, al⟩ := hta 1 a rfl
    simp only [Nat.one_mul, Nat.zero_mul, Nat.add_zero, Nat.add_assoc, Nat.reduceAdd] at d0 l0 a0 a1 al
    have al2 : off + 5 + 1 + 1 ≤ cells.length := by omega
    rcases hw with hw | hw
    · have hgb : bs = [94] := by rw [hw] at hb; simpa [bnds, wGap, wSeat, wWheel, wComp] using hb.symm
      have hge : 1 ≤ a.n := by
        rw [hgb] at hm
        simp only [numMay] at hm
        split at hm
        · rename_i q; simp [mayF, inB] at q; omega
        · cases hm
      by_cases hg : 0 < r.gap
      · have hres : addR r t0 [a] = (r, false) := by simp [addR, hw, hg]
        have hgn : gN r.gap = 1 := by unfold gN; rw [if_pos hg]
        rw [hgn] at hbr
        have w1 : IntKind.wrap .i64 2 = 2 := rfl
        simp -implicitDefEqProofs [e2, a0, a1, al, al2, hbr, hw, wGap, w1]
        rw [set_set2]
        exact ⟨by rw [hres], E0.setOf R.lo _, by rw [hres]; intro q; cases q⟩
      · have hres : addR r t0 [a] = ({ r with gap := a.n }, true) := by simp [addR, hw, hg]
        have hgn : gN r.gap = 0 := by unfold gN; rw [if_neg hg]
        have hgn2 : gN a.n = 1 := by unfold gN; rw [if_pos (by omega)]
        rw [hgn] at hbr
        have w1 : IntKind.wrap .i64 1 = 1 := rfl
        simp -implicitDefEqProofs [e2, a0, a1, al, al2, hbr, hw, wGap, w1]
        rw [set_set2]
        have R2 := R.put a.n r.radius r.rad
        rw [hgn2] at R2
        exact ⟨by rw [hres], E0.setOf R.lo _, by rw [hres]; exact fun _ => ⟨_, _, _, _, _, _, _, _, _, _, _, _, _, _, R2⟩⟩
    · have hw2 : ¬ wRad = wGap := by decide
      cases hg : r.rad with
      | true =>
        have hres : addR r t0 [a] = (r, false) := by simp [addR, hw, hg, hw2]
        have hgn : rN r.rad = 1 := by rw [hg]; rfl
        rw [hgn] at hbr
        have w1 : IntKind.wrap .i64 2 = 2 := rfl
        simp -implicitDefEqProofs [e2, a0, a1, al, al2, hbr, hw, wRad, w1]
        rw [set_set2]
        exact ⟨by rw [hres], E0.setOf R.lo _, by rw [hres]; intro q; cases q⟩
      | false =>
        have hres : addR r t0 [a] = ({ r with rad := true, radius := a.n }, true) := by simp [addR, hw, hg, hw2]
        have hgn : rN r.rad = 0 := by rw [hg]; rfl
        have hgn2 : rN true = 1 := rfl
        rw [hgn] at hbr
        have w1 : IntKind.wrap .i64 1 = 1 := rfl
        simp -implicitDefEqProofs [e2, a0, a1, al, al2, hbr, hw, wRad, w1]
        rw [set_set2]
        have R2 := R.put r.gap a.n true
        rw [hgn2] at R2
        exact ⟨by rw [hres], E0.setOf R.lo _, by rw [hres]; exact fun _ => ⟨_, _, _, _, _, _, _, _, _, _, _, _, _, _, R2⟩⟩
  · obtain ⟨⟨_, a0⟩, ⟨_, a1⟩, al⟩ := hta 1 a rfl
    obtain ⟨⟨_, b0⟩, ⟨_, b1'⟩, bl⟩ := hta 2 b rfl
    simp only [Nat.one_mul, Nat.zero_mul, Nat.add_zero, Nat.add_assoc, Nat.reduceAdd, Nat.reduceMul] at d0 l0 a0 a1 al b0 b1' bl
    have al2 : off + 5 + 1 + 1 ≤ cells.length := by omega
    have bl2 : off + 10 + 1 + 1 ≤ cells.length := by omega
    have hw1 : ¬ wKill = wGap := by decide
    have hw2 : ¬ wKill = wRad := by decide
    have hr1 : List.range 1 = [0] := rfl
    have hr2 : List.range 2 = [0, 1] := rfl
    obtain ⟨kq, hkq⟩ : ∃ k : KillR, k = ⟨a.n, b.n, t0.line, t0.col, a.line, a.col⟩ := ⟨_, rfl⟩
    have hres : addR r t0 [a, b] = ({ r with kills := r.kills ++ [kq] }, decide ((r.kills ++ [kq]).length ≤ 200)) := by simp [addR, hw, hw1, hw2, hkq]
    cases hrk : r.kills with
    | nil =>
      obtain ⟨rfl, rfl, rfl, rfl⟩ := R.nil hrk
      obtain ⟨rfl, _⟩ := id R.rows
      obtain ⟨rfl, _⟩ := id R.xs
      obtain ⟨rfl, _⟩ := id R.words
      obtain ⟨rfl, _⟩ := id R.firsts
      simp only [hrk, List.map_nil, Option.map_none, List.length_nil] at hbr
      simp -implicitDefEqProofs [e2, d0, a0, a1, al, al2, b1', bl2, hbr, hw, wKill]
      refine altQ_cut (M63 h br none none (intC a.n) (intC b.n) 1 (fun s1 s2 => [ss, .int .i64 r.gap, .int .i64 r.radius, sk, sp, .int .i64 (gN r.gap), .int .i64 (rN r.rad), s1, s2, .slice none 0 0, .slice none 0 0]) (.slice (some ⟨bt, off, none⟩) 3 c)) ?_ ?_
      · have hi := R.hi
        have c1 : ¬ br = h.n := by omega
        have c2 : ¬ br = h.n + 1 := by omega
        have c3 : ¬ br = h.n + 1 + 1 := by omega
        have c4 : ¬ br = h.n + 1 + 1 + 1 := by omega
        have c5 : ¬ bt = h.n := by omega
        have c6 : ¬ bt = h.n + 1 := by omega
        have c7 : ¬ bt = h.n + 1 + 1 := by omega
        have c8 : ¬ bt = h.n + 1 + 1 + 1 := by omega
        have k1 : ¬ h.n = br := by omega
        have k2 : ¬ h.n + 1 = br := by omega
        have k3 : ¬ h.n + 1 + 1 = br := by omega
        have k4 : ¬ h.n + 1 + 1 + 1 = br := by omega
        have n1 : ¬ h.n = h.n + 1 + 1 := by omega
        have n2 : ¬ h.n = h.n + 1 + 1 + 1 := by omega
        have n3 : ¬ h.n + 1 = h.n + 1 + 1 + 1 := by omega
        have n4 : ¬ h.n + 1 + 1 = h.n := by omega
        have n5 : ¬ h.n + 1 + 1 + 1 = h.n := by omega
        have n6 : ¬ h.n + 1 + 1 + 1 = h.n + 1 := by omega
        rw [altQ_cons, altQ_cons, altQ_cons, altQ_nil]
        refine ⟨?_, ?_, ?_, trivial⟩
        all_goals simp -implicitDefEqProofs [opBuildSlice, hr1, opAppend, srcCells, maxA, e2, a0, a1, al, al2, b1', bl, bl2, hbr, c1, c2, c3, c4, c5, c6, c7, c8, n1, n2, n3, n4, n5, n6]
        · refine ⟨h.n + 1, h.n + 1 + 1 + 1, ⟨by omega, by omega, by omega, by simp, by simp, by simp; omega, by simp, fun x hx h1 h2 h3 => ?_, by simp [intC, n1, n2, n3, n4, n5, n6, k1, k2, k3, k4, c1, c2, c3, c4], by simp [intC, n1, n2, n3, n4, n5, n6, k1, k2, k3, k4, c1, c2, c3, c4]⟩, by simp [n1, n2, n3, n4, n5, n6, k1, k2, k3, k4, c1, c2, c3, c4], by simp, by simp⟩
          have m1 : ¬ x = h.n := by omega
          have m2 : ¬ x = h.n + 1 := by omega
          have m3 : ¬ x = h.n + 1 + 1 := by omega
          have m4 : ¬ x = h.n + 1 + 1 + 1 := by omega
          simp [h1, m1, m2, m3, m4]
        · refine ⟨h.n + 1 + 1, h.n + 1 + 1 + 1, ⟨by omega, by omega, by omega, by simp, by simp, by simp; omega, by simp, fun x hx h1 h2 h3 => ?_, by simp [intC, n1, n2, n3, n4, n5, n6, k1, k2, k3, k4, c1, c2, c3, c4], by simp [intC, n1, n2, n3, n4, n5, n6, k1, k2, k3, k4, c1, c2, c3, c4]⟩, by simp [n1, n2, n3, n4, n5, n6, k1, k2, k3, k4, c1, c2, c3, c4], by simp, by simp⟩
          have m1 : ¬ x = h.n := by omega
          have m2 : ¬ x = h.n + 1 := by omega
          have m3 : ¬ x = h.n + 1 + 1 := by omega
          have m4 : ¬ x = h.n + 1 + 1 + 1 := by omega
          simp [h1, m1, m2, m3, m4]
        · refine ⟨h.n + 1 + 1, h.n + 1 + 1 + 1, ⟨by omega, by omega, by omega, by simp, by simp, by simp; omega, by simp, fun x hx h1 h2 h3 => ?_, by simp [intC, n1, n2, n3, n4, n5, n6, k1, k2, k3, k4, c1, c2, c3, c4], by simp [intC, n1, n2, n3, n4, n5, n6, k1, k2, k3, k4, c1, c2, c3, c4]⟩, by simp [n1, n2, n3, n4, n5, n6, k1, k2, k3, k4, c1, c2, c3, c4], by simp, by simp⟩
          have m1 : ¬ x = h.n := by omega
          have m2 : ¬ x = h.n + 1 := by omega
          have m3 : ¬ x = h.n + 1 + 1 := by omega
          have m4 : ¬ x = h.n + 1 + 1 + 1 := by omega
          simp [h1, m1, m2, m3, m4]
      · rintro ⟨Tg, ⟨y, G⟩⟩ ⟨y1, y2, TW, gbr, g0, g2⟩
        simp at TW gbr g0 g2
        have gbt : G.f bt = .row wt 84 cells := by rw [TW.same bt e5 (by rintro rfl; rw [R.row] at e2; simp at e2) (by simp) (by simp)]; exact e2
        have sp0 := fun h => rspot_ok t0 h
        have sp1 := fun h => rspot_ok a h
        simp only [tokV, tokC, hw, wKill] at sp0 sp1
        simp -implicitDefEqProofs [g0, g2, gbt, gbr, d0, a0, l0, al, hw, wKill]
        refine (sp0 _).mono ?_
        rintro r1 H2 ⟨e, rfl⟩
        replace e := e.symm
        subst e
        have hi := R.hi
        have hTn := TW.n
        have c1 : ¬ br = G.n := by omega
        have c2 : ¬ br = G.n + 1 := by omega
        have c3 : ¬ br = G.n + 1 + 1 := by omega
        have c4 : ¬ br = G.n + 1 + 1 + 1 := by omega
        have c5 : ¬ bt = G.n := by omega
        have c6 : ¬ bt = G.n + 1 := by omega
        have c7 : ¬ bt = G.n + 1 + 1 := by omega
        have c8 : ¬ bt = G.n + 1 + 1 + 1 := by omega
        have k1 : ¬ G.n = br := by omega
        have k2 : ¬ G.n + 1 = br := by omega
        have k3 : ¬ G.n + 1 + 1 = br := by omega
        have k4 : ¬ G.n + 1 + 1 + 1 = br := by omega
        have n1 : ¬ G.n = G.n + 1 + 1 := by omega
        have n2 : ¬ G.n = G.n + 1 + 1 + 1 := by omega
        have n3 : ¬ G.n + 1 = G.n + 1 + 1 + 1 := by omega
        have n4 : ¬ G.n + 1 + 1 = G.n := by omega
        have n5 : ¬ G.n + 1 + 1 + 1 = G.n := by omega
        have n6 : ¬ G.n + 1 + 1 + 1 = G.n + 1 := by omega
        simp -implicitDefEqProofs [callP, spotV, opBuildSlice, hr1, hr2, opAppend, srcCells, maxA, g0, g2, gbt, gbr, d0, a0, l0, al, hw, wKill, c1, c2, c5, c6]
        intro _
        refine (sp1 _).mono ?_
        rintro r1 H2 ⟨e, rfl⟩
        replace e := e.symm
        subst e
        simp -implicitDefEqProofs [callP, spotV, opBuildSlice, hr1, hr2, opAppend, srcCells, maxA, g0, g2, gbt, gbr, d0, a0, l0, al, hw, wKill, c1, c2, c3, c4, c5, c6, c7, c8, n1, n2, n3, n4, n5, n6, k1, k2, k3, k4]
        intro _
        rw [hrk, List.nil_append] at hres
        refine R.killP E0 y1 y2 (G.n + 1) (G.n + 1 + 1 + 1) 1 kq (by rw [hrk, List.nil_append]; exact hres) rfl (by rw [hrk]; rfl) TW (by rw [hrk, hkq]; rfl) (by rw [hrk, hkq]; rfl) ⟨by omega, by omega, by omega, by simp, by simp, by simp; omega, by simp, fun x hx h1 h2 h3 => ?_, ?_, ?_⟩ ?_
        · have m1 : ¬ x = G.n := by omega
          have m2 : ¬ x = G.n + 1 := by omega
          have m3 : ¬ x = G.n + 1 + 1 := by omega
          have m4 : ¬ x = G.n + 1 + 1 + 1 := by omega
          simp [h1, m1, m2, m3, m4]
        · rw [hrk, hkq]; simp [spC, n1, n2, n3, n4, n5, n6, k1, k2, k3, k4, c1, c2, c3, c4]
        · rw [hrk, hkq]; simp [spC, n1, n2, n3, n4, n5, n6, k1, k2, k3, k4, c1, c2, c3, c4]
        · simp [n1, n2, n3, n4, n5, n6, k1, k2, k3, k4, c1, c2, c3, c4]
    | cons k0 kr =>
      have hne : r.kills ≠ [] := by rw [hrk]; simp
      obtain ⟨m, hm0⟩ : ∃ m, m = r.kills.length := ⟨_, rfl⟩
      have hmp : m ≠ 0 := by rw [hm0, hrk]; simp
      obtain ⟨b1, rfl⟩ : ∃ b, o1 = some b := by
        cases o1 with
        | none => exact absurd (by simpa using R.rows.2) hne
        | some b => exact ⟨b, rfl⟩
      obtain ⟨b2, rfl⟩ : ∃ b, o2 = some b := by
        cases o2 with
        | none => exact absurd (by simpa using R.xs.2) hne
        | some b => exact ⟨b, rfl⟩
      obtain ⟨b3, rfl⟩ : ∃ b, o3 = some b := by
        cases o3 with
        | none => exact absurd (by simpa using R.words.2) hne
        | some b => exact ⟨b, rfl⟩
      obtain ⟨b4, rfl⟩ : ∃ b, o4 = some b := by
        cases o4 with
        | none => exact absurd (by simpa using R.firsts.2) hne
        | some b => exact ⟨b, rfl⟩
      obtain ⟨rfl, u1, u2, u3⟩ := id R.rows
      obtain ⟨rfl, v1, v2, v3⟩ := id R.xs
      obtain ⟨rfl, p1, p2, p3⟩ := id R.words
      obtain ⟨rfl, q1, q2, q3⟩ := id R.firsts
      obtain ⟨K1, hK1⟩ : ∃ K, K = (r.kills.map (·.row)).flatMap intC := ⟨_, rfl⟩
      obtain ⟨K2, hK2⟩ : ∃ K, K = (r.kills.map (·.x)).flatMap intC := ⟨_, rfl⟩
      obtain ⟨K3, hK3⟩ : ∃ K, K = (r.kills.map fun k => (k.line, k.col)).flatMap spC := ⟨_, rfl⟩
      obtain ⟨K4, hK4⟩ : ∃ K, K = (r.kills.map fun k => (k.rline, k.rcol)).flatMap spC := ⟨_, rfl⟩
      have L1 : K1.length = m := by have := flatA_len 1 (enc := intC) (fun _ => rfl) (r.kills.map (·.row)); rw [← hK1, List.length_map] at this; omega
      have L2 : K2.length = m := by have := flatA_len 1 (enc := intC) (fun _ => rfl) (r.kills.map (·.x)); rw [← hK2, List.length_map] at this; omega
      have L3 : K3.length = m * 2 := by have := flatA_len 2 (enc := spC) (fun _ => rfl) (r.kills.map fun k => (k.line, k.col)); rw [← hK3, List.length_map] at this; omega
      have L4 : K4.length = m * 2 := by have := flatA_len 2 (enc := spC) (fun _ => rfl) (r.kills.map fun k => (k.rline, k.rcol)); rw [← hK4, List.length_map] at this; omega
      have t1 : K1.take m = K1 := List.take_of_length_le (by omega)
      have t2 : K2.take m = K2 := List.take_of_length_le (by omega)
      have t3 : K3.take (m * 2) = K3 := List.take_of_length_le (by omega)
      have t4 : K4.take (m * 2) = K4 := List.take_of_length_le (by omega)
      rw [← hK1] at u1
      rw [← hK2] at v1
      rw [← hK3] at p1
      rw [← hK4] at q1
      have hrs := hr.2.1
      have hmx : (m + 1) * 8 ≤ 140737488355328 := by omega
      have hmx2 : (m + 1) * 16 ≤ 140737488355328 := by omega
      have d12 : ¬ b1 = b2 := fun q => R.a12 b1 rfl (by rw [q])
      have d12r : ¬ b2 = b1 := fun q => d12 q.symm
      have db1 : ¬ b1 = br := by rintro rfl; rw [R.row] at u1; simp at u1
      have db1r : ¬ br = b1 := fun q => db1 q.symm
      have db2 : ¬ b2 = br := by rintro rfl; rw [R.row] at v1; simp at v1
      have db2r : ¬ br = b2 := fun q => db2 q.symm
      have dt1 : ¬ bt = b1 := by rintro rfl; rw [e2] at u1; simp at u1
      have dt2 : ¬ bt = b2 := by rintro rfl; rw [e2] at v1; simp at v1
      have d34 : ¬ b3 = b4 := fun q => R.a34 b3 rfl (by rw [q])
      have d34r : ¬ b4 = b3 := fun q => d34 q.symm
      have db3 : ¬ b3 = br := by rintro rfl; rw [R.row] at p1; simp at p1
      have db3r : ¬ br = b3 := fun q => db3 q.symm
      have db4 : ¬ b4 = br := by rintro rfl; rw [R.row] at q1; simp at q1
      have db4r : ¬ br = b4 := fun q => db4 q.symm
      have dt3 : ¬ bt = b3 := by rintro rfl; rw [e2] at p1; simp at p1
      have dt4 : ¬ bt = b4 := by rintro rfl; rw [e2] at q1; simp at q1
      have x31 : ¬ b3 = b1 := by rintro rfl; rw [u1] at p1; simp at p1
      have x32 : ¬ b3 = b2 := by rintro rfl; rw [v1] at p1; simp at p1
      have x41 : ¬ b4 = b1 := by rintro rfl; rw [u1] at q1; simp at q1
      have x42 : ¬ b4 = b2 := by rintro rfl; rw [v1] at q1; simp at q1
      have dtb : ¬ bt = br := by rintro rfl; rw [R.row] at e2; simp at e2
      have hi := R.hi
      simp only [List.length_map, Option.map_some, ← hm0] at hbr
      simp -implicitDefEqProofs [e2, d0, a0, a1, al, al2, b1', bl2, hbr, hw, wKill]
      refine altQ_cut (M63 h br (some b1) (some b2) (K1 ++ intC a.n) (K2 ++ intC b.n) (m + 1) (fun s1 s2 => [ss, .int .i64 r.gap, .int .i64 r.radius, sk, sp, .int .i64 (gN r.gap), .int .i64 (rN r.rad), s1, s2, .slice (some ⟨b3, 0, none⟩) m m, .slice (some ⟨b4, 0, none⟩) m m]) (.slice (some ⟨bt, off, none⟩) 3 c)) ?_ ?_
      · skip
        have wbr0 : ¬ br = h.n := by omega
        have wbr0r : ¬ h.n = br := by omega
        have wbr1 : ¬ br = h.n + 1 := by omega
        have wbr1r : ¬ h.n + 1 = br := by omega
        have wbr2 : ¬ br = h.n + 1 + 1 := by omega
        have wbr2r : ¬ h.n + 1 + 1 = br := by omega
        have wbr3 : ¬ br = h.n + 1 + 1 + 1 := by omega
        have wbr3r : ¬ h.n + 1 + 1 + 1 = br := by omega
        have wbt0 : ¬ bt = h.n := by omega
        have wbt0r : ¬ h.n = bt := by omega
        have wbt1 : ¬ bt = h.n + 1 := by omega
        have wbt1r : ¬ h.n + 1 = bt := by omega
        have wbt2 : ¬ bt = h.n + 1 + 1 := by omega
        have wbt2r : ¬ h.n + 1 + 1 = bt := by omega
        have wbt3 : ¬ bt = h.n + 1 + 1 + 1 := by omega
        have wbt3r : ¬ h.n + 1 + 1 + 1 = bt := by omega
        have wb10 : ¬ b1 = h.n := by omega
        have wb10r : ¬ h.n = b1 := by omega
        have wb11 : ¬ b1 = h.n + 1 := by omega
        have wb11r : ¬ h.n + 1 = b1 := by omega
        have wb12 : ¬ b1 = h.n + 1 + 1 := by omega
        have wb12r : ¬ h.n + 1 + 1 = b1 := by omega
        have wb13 : ¬ b1 = h.n + 1 + 1 + 1 := by omega
        have wb13r : ¬ h.n + 1 + 1 + 1 = b1 := by omega
        have wb20 : ¬ b2 = h.n := by omega
        have wb20r : ¬ h.n = b2 := by omega
        have wb21 : ¬ b2 = h.n + 1 := by omega
        have wb21r : ¬ h.n + 1 = b2 := by omega
        have wb22 : ¬ b2 = h.n + 1 + 1 := by omega
        have wb22r : ¬ h.n + 1 + 1 = b2 := by omega
        have wb23 : ¬ b2 = h.n + 1 + 1 + 1 := by omega
        have wb23r : ¬ h.n + 1 + 1 + 1 = b2 := by omega
        have n1 : ¬ h.n = h.n + 1 + 1 := by omega
        have n2 : ¬ h.n = h.n + 1 + 1 + 1 := by omega
        have n3 : ¬ h.n + 1 = h.n + 1 + 1 + 1 := by omega
        have n4 : ¬ h.n + 1 + 1 = h.n := by omega
        have n5 : ¬ h.n + 1 + 1 + 1 = h.n := by omega
        have n6 : ¬ h.n + 1 + 1 + 1 = h.n + 1 := by omega
        rw [altQ_cons, altQ_cons, altQ_cons, altQ_nil]
        refine ⟨?_, ?_, ?_, trivial⟩
        all_goals simp -implicitDefEqProofs [opBuildSlice, hr1, opAppend, srcCells, maxA, e2, a0, a1, al, al2, b1', bl, bl2, hbr, u1, v1, L1, L2, t1, t2, hmx, d12, d12r, db1, db1r, db2, db2r, dt1, dt2, dtb, wbr0, wbr0r, wbr1, wbr1r, wbr2, wbr2r, wbr3, wbr3r, wbt0, wbt0r, wbt1, wbt1r, wbt2, wbt2r, wbt3, wbt3r, wb10, wb10r, wb11, wb11r, wb12, wb12r, wb13, wb13r, wb20, wb20r, wb21, wb21r, wb22, wb22r, wb23, wb23r, n1, n2, n3, n4, n5, n6]
        · refine ⟨h.n + 1, h.n + 1 + 1 + 1, ⟨by omega, by omega, by omega, by simp, by simp, by simp; omega, by simp, fun x hx h1 h2 h3 => ?_, by simp [intC, d12, d12r, db1, db1r, db2, db2r, dt1, dt2, dtb, wbr0, wbr0r, wbr1, wbr1r, wbr2, wbr2r, wbr3, wbr3r, wbt0, wbt0r, wbt1, wbt1r, wbt2, wbt2r, wbt3, wbt3r, wb10, wb10r, wb11, wb11r, wb12, wb12r, wb13, wb13r, wb20, wb20r, wb21, wb21r, wb22, wb22r, wb23, wb23r, n1, n2, n3, n4, n5, n6], by simp [intC, d12, d12r, db1, db1r, db2, db2r, dt1, dt2, dtb, wbr0, wbr0r, wbr1, wbr1r, wbr2, wbr2r, wbr3, wbr3r, wbt0, wbt0r, wbt1, wbt1r, wbt2, wbt2r, wbt3, wbt3r, wb10, wb10r, wb11, wb11r, wb12, wb12r, wb13, wb13r, wb20, wb20r, wb21, wb21r, wb22, wb22r, wb23, wb23r, n1, n2, n3, n4, n5, n6]⟩, by simp [intC, d12, d12r, db1, db1r, db2, db2r, dt1, dt2, dtb, wbr0, wbr0r, wbr1, wbr1r, wbr2, wbr2r, wbr3, wbr3r, wbt0, wbt0r, wbt1, wbt1r, wbt2, wbt2r, wbt3, wbt3r, wb10, wb10r, wb11, wb11r, wb12, wb12r, wb13, wb13r, wb20, wb20r, wb21, wb21r, wb22, wb22r, wb23, wb23r, n1, n2, n3, n4, n5, n6], by simp, by simp⟩
          have h2' : ¬ x = b1 := fun q => h2 (by rw [q])
          have h3' : ¬ x = b2 := fun q => h3 (by rw [q])
          have z1 : ¬ x = h.n := by omega
          have z2 : ¬ x = h.n + 1 := by omega
          have z3 : ¬ x = h.n + 1 + 1 := by omega
          have z4 : ¬ x = h.n + 1 + 1 + 1 := by omega
          simp [h1, h2', h3', z1, z2, z3, z4]
        · refine ⟨h.n + 1 + 1, h.n + 1 + 1 + 1, ⟨by omega, by omega, by omega, by simp, by simp, by simp; omega, by simp, fun x hx h1 h2 h3 => ?_, by simp [intC, d12, d12r, db1, db1r, db2, db2r, dt1, dt2, dtb, wbr0, wbr0r, wbr1, wbr1r, wbr2, wbr2r, wbr3, wbr3r, wbt0, wbt0r, wbt1, wbt1r, wbt2, wbt2r, wbt3, wbt3r, wb10, wb10r, wb11, wb11r, wb12, wb12r, wb13, wb13r, wb20, wb20r, wb21, wb21r, wb22, wb22r, wb23, wb23r, n1, n2, n3, n4, n5, n6], by simp [intC, d12, d12r, db1, db1r, db2, db2r, dt1, dt2, dtb, wbr0, wbr0r, wbr1, wbr1r, wbr2, wbr2r, wbr3, wbr3r, wbt0, wbt0r, wbt1, wbt1r, wbt2, wbt2r, wbt3, wbt3r, wb10, wb10r, wb11, wb11r, wb12, wb12r, wb13, wb13r, wb20, wb20r, wb21, wb21r, wb22, wb22r, wb23, wb23r, n1, n2, n3, n4, n5, n6]⟩, by simp [intC, d12, d12r, db1, db1r, db2, db2r, dt1, dt2, dtb, wbr0, wbr0r, wbr1, wbr1r, wbr2, wbr2r, wbr3, wbr3r, wbt0, wbt0r, wbt1, wbt1r, wbt2, wbt2r, wbt3, wbt3r, wb10, wb10r, wb11, wb11r, wb12, wb12r, wb13, wb13r, wb20, wb20r, wb21, wb21r, wb22, wb22r, wb23, wb23r, n1, n2, n3, n4, n5, n6], by simp, by simp⟩
          have h2' : ¬ x = b1 := fun q => h2 (by rw [q])
          have h3' : ¬ x = b2 := fun q => h3 (by rw [q])
          have z1 : ¬ x = h.n := by omega
          have z2 : ¬ x = h.n + 1 := by omega
          have z3 : ¬ x = h.n + 1 + 1 := by omega
          have z4 : ¬ x = h.n + 1 + 1 + 1 := by omega
          simp [h1, h2', h3', z1, z2, z3, z4]
        · refine ⟨h.n + 1 + 1, h.n + 1 + 1 + 1, ⟨by omega, by omega, by omega, by simp, by simp, by simp; omega, by simp, fun x hx h1 h2 h3 => ?_, by simp [intC, d12, d12r, db1, db1r, db2, db2r, dt1, dt2, dtb, wbr0, wbr0r, wbr1, wbr1r, wbr2, wbr2r, wbr3, wbr3r, wbt0, wbt0r, wbt1, wbt1r, wbt2, wbt2r, wbt3, wbt3r, wb10, wb10r, wb11, wb11r, wb12, wb12r, wb13, wb13r, wb20, wb20r, wb21, wb21r, wb22, wb22r, wb23, wb23r, n1, n2, n3, n4, n5, n6], by simp [intC, d12, d12r, db1, db1r, db2, db2r, dt1, dt2, dtb, wbr0, wbr0r, wbr1, wbr1r, wbr2, wbr2r, wbr3, wbr3r, wbt0, wbt0r, wbt1, wbt1r, wbt2, wbt2r, wbt3, wbt3r, wb10, wb10r, wb11, wb11r, wb12, wb12r, wb13, wb13r, wb20, wb20r, wb21, wb21r, wb22, wb22r, wb23, wb23r, n1, n2, n3, n4, n5, n6]⟩, by simp [intC, d12, d12r, db1, db1r, db2, db2r, dt1, dt2, dtb, wbr0, wbr0r, wbr1, wbr1r, wbr2, wbr2r, wbr3, wbr3r, wbt0, wbt0r, wbt1, wbt1r, wbt2, wbt2r, wbt3, wbt3r, wb10, wb10r, wb11, wb11r, wb12, wb12r, wb13, wb13r, wb20, wb20r, wb21, wb21r, wb22, wb22r, wb23, wb23r, n1, n2, n3, n4, n5, n6], by simp, by simp⟩
          have h2' : ¬ x = b1 := fun q => h2 (by rw [q])
          have h3' : ¬ x = b2 := fun q => h3 (by rw [q])
          have z1 : ¬ x = h.n := by omega
          have z2 : ¬ x = h.n + 1 := by omega
          have z3 : ¬ x = h.n + 1 + 1 := by omega
          have z4 : ¬ x = h.n + 1 + 1 + 1 := by omega
          simp [h1, h2', h3', z1, z2, z3, z4]
      · rintro ⟨Tg, ⟨y, G⟩⟩ ⟨y1, y2, TW, gbr, g0, g2⟩
        simp at TW gbr g0 g2
        have gbt : G.f bt = .row wt 84 cells := by rw [TW.same bt e5 dtb (fun q => dt1 (by simpa using q.symm)) (fun q => dt2 (by simpa using q.symm))]; exact e2
        have gp1 : G.f b3 = .row true 27 K3 := by rw [TW.same b3 p3 db3 (fun q => x31 (by simpa using q.symm)) (fun q => x32 (by simpa using q.symm))]; exact p1
        have gq1 : G.f b4 = .row true 27 K4 := by rw [TW.same b4 q3 db4 (fun q => x41 (by simpa using q.symm)) (fun q => x42 (by simpa using q.symm))]; exact q1
        have hTn := TW.n
        have sp0 := fun h => rspot_ok t0 h
        have sp1 := fun h => rspot_ok a h
        simp only [tokV, tokC, hw, wKill] at sp0 sp1
        simp -implicitDefEqProofs [g0, g2, gbt, gbr, d0, a0, l0, al, hw, wKill]
        refine (sp0 _).mono ?_
        rintro r1 H2 ⟨e, rfl⟩
        replace e := e.symm
        subst e
        have wbr0 : ¬ br = G.n := by omega
        have wbr0r : ¬ G.n = br := by omega
        have wbr1 : ¬ br = G.n + 1 := by omega
        have wbr1r : ¬ G.n + 1 = br := by omega
        have wbr2 : ¬ br = G.n + 1 + 1 := by omega
        have wbr2r : ¬ G.n + 1 + 1 = br := by omega
        have wbr3 : ¬ br = G.n + 1 + 1 + 1 := by omega
        have wbr3r : ¬ G.n + 1 + 1 + 1 = br := by omega
        have wbt0 : ¬ bt = G.n := by omega
        have wbt0r : ¬ G.n = bt := by omega
        have wbt1 : ¬ bt = G.n + 1 := by omega
        have wbt1r : ¬ G.n + 1 = bt := by omega
        have wbt2 : ¬ bt = G.n + 1 + 1 := by omega
        have wbt2r : ¬ G.n + 1 + 1 = bt := by omega
        have wbt3 : ¬ bt = G.n + 1 + 1 + 1 := by omega
        have wbt3r : ¬ G.n + 1 + 1 + 1 = bt := by omega
        have wb30 : ¬ b3 = G.n := by omega
        have wb30r : ¬ G.n = b3 := by omega
        have wb31 : ¬ b3 = G.n + 1 := by omega
        have wb31r : ¬ G.n + 1 = b3 := by omega
        have wb32 : ¬ b3 = G.n + 1 + 1 := by omega
        have wb32r : ¬ G.n + 1 + 1 = b3 := by omega
        have wb33 : ¬ b3 = G.n + 1 + 1 + 1 := by omega
        have wb33r : ¬ G.n + 1 + 1 + 1 = b3 := by omega
        have wb40 : ¬ b4 = G.n := by omega
        have wb40r : ¬ G.n = b4 := by omega
        have wb41 : ¬ b4 = G.n + 1 := by omega
        have wb41r : ¬ G.n + 1 = b4 := by omega
        have wb42 : ¬ b4 = G.n + 1 + 1 := by omega
        have wb42r : ¬ G.n + 1 + 1 = b4 := by omega
        have wb43 : ¬ b4 = G.n + 1 + 1 + 1 := by omega
        have wb43r : ¬ G.n + 1 + 1 + 1 = b4 := by omega
        have n1 : ¬ G.n = G.n + 1 + 1 := by omega
        have n2 : ¬ G.n = G.n + 1 + 1 + 1 := by omega
        have n3 : ¬ G.n + 1 = G.n + 1 + 1 + 1 := by omega
        have n4 : ¬ G.n + 1 + 1 = G.n := by omega
        have n5 : ¬ G.n + 1 + 1 + 1 = G.n := by omega
        have n6 : ¬ G.n + 1 + 1 + 1 = G.n + 1 := by omega
        simp -implicitDefEqProofs [callP, spotV, opBuildSlice, hr1, hr2, opAppend, srcCells, maxA, g0, g2, gbt, gbr, gp1, gq1, L3, L4, t3, t4, hmx2, d0, a0, l0, al, hw, wKill, d34, d34r, db3, db3r, db4, db4r, dt3, dt4, dtb, wbr0, wbr0r, wbr1, wbr1r, wbr2, wbr2r, wbr3, wbr3r, wbt0, wbt0r, wbt1, wbt1r, wbt2, wbt2r, wbt3, wbt3r, wb30, wb30r, wb31, wb31r, wb32, wb32r, wb33, wb33r, wb40, wb40r, wb41, wb41r, wb42, wb42r, wb43, wb43r, n1, n2, n3, n4, n5, n6]
        intro _
        refine (sp1 _).mono ?_
        rintro r1 H2 ⟨e, rfl⟩
        replace e := e.symm
        subst e
        simp -implicitDefEqProofs [callP, spotV, opBuildSlice, hr1, hr2, opAppend, srcCells, maxA, g0, g2, gbt, gbr, gp1, gq1, L3, L4, t3, t4, hmx2, d0, a0, l0, al, hw, wKill, d34, d34r, db3, db3r, db4, db4r, dt3, dt4, dtb, wbr0, wbr0r, wbr1, wbr1r, wbr2, wbr2r, wbr3, wbr3r, wbt0, wbt0r, wbt1, wbt1r, wbt2, wbt2r, wbt3, wbt3r, wb30, wb30r, wb31, wb31r, wb32, wb32r, wb33, wb33r, wb40, wb40r, wb41, wb41r, wb42, wb42r, wb43, wb43r, n1, n2, n3, n4, n5, n6]
        intro _
        refine R.killP E0 y1 y2 (G.n + 1) (G.n + 1 + 1 + 1) (m + 1) kq hres (by rw [List.length_append, ← hm0]; congr 1; rw [decide_eq_decide, List.length_singleton]; omega) (by rw [hm0]) TW (by rw [hK1, hkq]) (by rw [hK2, hkq]) ⟨by omega, by omega, by omega, by simp, by simp, by simp; omega, by simp, fun x hx h1 h2 h3 => ?_, ?_, ?_⟩ ?_
        · have h2' : ¬ x = b3 := fun q => h2 (by rw [q])
          have h3' : ¬ x = b4 := fun q => h3 (by rw [q])
          have m1 : ¬ x = G.n := by omega
          have m2 : ¬ x = G.n + 1 := by omega
          have m3 : ¬ x = G.n + 1 + 1 := by omega
          have m4 : ¬ x = G.n + 1 + 1 + 1 := by omega
          simp [h1, h2', h3', m1, m2, m3, m4]
        · rw [← hK3, hkq]; simp [spC, d34, d34r, db3, db3r, db4, db4r, dt3, dt4, dtb, wbr0, wbr0r, wbr1, wbr1r, wbr2, wbr2r, wbr3, wbr3r, wbt0, wbt0r, wbt1, wbt1r, wbt2, wbt2r, wbt3, wbt3r, wb30, wb30r, wb31, wb31r, wb32, wb32r, wb33, wb33r, wb40, wb40r, wb41, wb41r, wb42, wb42r, wb43, wb43r, n1, n2, n3, n4, n5, n6]
        · rw [← hK4, hkq]; simp [spC, d34, d34r, db3, db3r, db4, db4r, dt3, dt4, dtb, wbr0, wbr0r, wbr1, wbr1r, wbr2, wbr2r, wbr3, wbr3r, wbt0, wbt0r, wbt1, wbt1r, wbt2, wbt2r, wbt3, wbt3r, wb30, wb30r, wb31, wb31r, wb32, wb32r, wb33, wb33r, wb40, wb40r, wb41, wb41r, wb42, wb42r, wb43, wb43r, n1, n2, n3, n4, n5, n6]
        · simp [d34, d34r, db3, db3r, db4, db4r, dt3, dt4, dtb, wbr0, wbr0r, wbr1, wbr1r, wbr2, wbr2r, wbr3, wbr3r, wbt0, wbt0r, wbt1, wbt1r, wbt2, wbt2r, wbt3, wbt3r, wb30, wb30r, wb31, wb31r, wb32, wb32r, wb33, wb33r, wb40, wb40r, wb41, wb41r, wb42, wb42r, wb43, wb43r, n1, n2, n3, n4, n5, n6]
  · obtain ⟨⟨_, a0⟩, ⟨_, a1⟩, al⟩ := hta 1 a rfl
    obtain ⟨⟨_, b0⟩, ⟨_, b1⟩, bl⟩ := hta 2 b rfl
    obtain ⟨⟨_, c0⟩, ⟨_, c1⟩, cl⟩ := hta 3 c' rfl
    simp only [Nat.one_mul, Nat.zero_mul, Nat.add_zero, Nat.add_assoc, Nat.reduceAdd, Nat.reduceMul] at d0 l0 a0 a1 al b0 b1 bl c0 c1 cl
    have al2 : off + 5 + 1 + 1 ≤ cells.length := by omega
    have bl2 : off + 10 + 1 + 1 ≤ cells.length := by omega
    have cl2 : off + 15 + 1 + 1 ≤ cells.length := by omega
    have hr1 : List.range 1 = [0] := rfl
    have hr3 : List.range 3 = [0, 1, 2] := rfl
    have hr4 : List.range 4 = [0, 1, 2, 3] := rfl
    by_cases hwp : t0.text = wPole
    · have hw1 : ¬ wPole = wGap := by decide
      have hw2 : ¬ wPole = wRad := by decide
      have hw3 : ¬ wPole = wKill := by decide
      obtain ⟨pq, hpq⟩ : ∃ k : PoleR, k = ⟨a.n, b.n, c'.n⟩ := ⟨_, rfl⟩
      have hres : addR r t0 [a, b, c'] = ({ r with poles := r.poles ++ [pq] }, decide ((r.poles ++ [pq]).length ≤ 200)) := by simp [addR, hwp, hw1, hw2, hw3, hpq]
      obtain ⟨rfl, hko⟩ := id R.poles
      have hi := R.hi
      have o2' : ¬ br = h.n := by omega
      have o3' : ¬ br = h.n + 1 := by omega
      cases op with
      | none =>
        simp only at hko
        simp -implicitDefEqProofs [e2, a0, a1, al, al2, b1, bl2, c1, cl2, hbr, hwp, wPole, hko, opBuildSlice, hr3, hr1, opAppend, srcCells, maxA, o2', o3']
        have key := R.poleP E0 (v := .bool true) pq (cells := poleC pq) (by rw [hko]; rfl) hres (by rw [hko]; rfl)
        rw [hpq, hko] at key
        exact key
      | some bk =>
        simp only at hko
        obtain ⟨hk1, hk2, hk3⟩ := hko
        obtain ⟨K, hK⟩ : ∃ K, K = r.poles.flatMap poleC := ⟨_, rfl⟩
        have hKl : K.length = r.poles.length * 3 := by have := flatA_len 3 (enc := poleC) (fun _ => rfl) r.poles; rw [← hK] at this; omega
        rw [← hK] at hk1
        have hmx : (r.poles.length + 1) * 24 ≤ 140737488355328 := by have := hr.2.2; omega
        have o1' : ¬ bk = h.n := by omega
        have o4' : ¬ br = bk := by rintro rfl; rw [hbr] at hk1; simp at hk1
        have e8 : K.take (r.poles.length * 3) = K := List.take_of_length_le (by omega)
        simp -implicitDefEqProofs [e2, a0, a1, al, al2, b1, bl2, c1, cl2, hbr, hwp, wPole, opBuildSlice, hr3, hr1, opAppend, srcCells, maxA, hk1, hKl, hmx, o1', o2', o3', o4', e8]
        have key := R.poleP E0 (v := .bool (decide ((r.poles.length : Int) + 1 ≤ 200))) pq (cells := K ++ poleC pq) (by rw [hK]) hres (by congr 1; rw [decide_eq_decide, List.length_append, List.length_singleton]; omega)
        rw [hpq] at key
        exact key
    · have hws : t0.text = wSeat ∨ t0.text = wWheel ∨ t0.text = wComp := by
        rcases hw with q | q
        · exact absurd q hwp
        · exact q
      have z1 : ¬ t0.text = wGap := by rcases hws with q | q | q <;> rw [q] <;> decide
      have z2 : ¬ t0.text = wRad := by rcases hws with q | q | q <;> rw [q] <;> decide
      have z3 : ¬ t0.text = wKill := by rcases hws with q | q | q <;> rw [q] <;> decide
      have y1 : ¬ t0.text = [103, 97, 112] := z1
      have y2 : ¬ t0.text = [114, 97, 100, 105, 117, 115] := z2
      have y3 : ¬ t0.text = [107, 105, 108, 108] := z3
      have y4 : ¬ t0.text = [112, 111, 108, 101] := hwp
      obtain ⟨sq, hsq⟩ : ∃ k : SeatR, k = ⟨a.n, b.n, c'.n, kindW t0.text⟩ := ⟨_, rfl⟩
      simp -implicitDefEqProofs [e2, a0, a1, al, al2, b1, bl2, c1, cl2, hbr, y1, y2, y3, y4]
      refine condQ_cutB (MS63 h br sq) ?_ ?_
      · unfold kindW wWheel wComp at hsq
        by_cases v1 : t0.text = [119, 104, 101, 101, 108]
        · simp -implicitDefEqProofs [v1]
          exact ⟨rfl, by simp, by simp, by simp [hsq, v1]⟩
        · by_cases v2 : t0.text = [99, 111, 109, 112, 97, 110, 105, 111, 110]
          · simp -implicitDefEqProofs [v1, v2]
            exact ⟨rfl, by simp, by simp, by simp [hsq, v2]⟩
          · simp -implicitDefEqProofs [v1, v2]
            exact ⟨rfl, by simp, by simp, by simp [hsq, v1, v2]⟩
      · rintro ⟨Tg, ⟨y, H2⟩⟩ ⟨e, g0, g7, x7⟩
        replace e : h = H2 := e.symm
        subst e
        simp at g0 g7 x7
        have hat := rat_ok r.seats (by have := hr.1; omega) br ss _ sq.row sq.x h hbr R.seats.own.sl
        simp -implicitDefEqProofs [g0, g7, x7]
        refine hat.mono ?_
        rintro r1 H2 ⟨e, rfl⟩
        replace e := e.symm
        subst e
        have es : (sq.row, sq.x) = (a.n, b.n) := by rw [hsq]
        simp only [Prod.mk.injEq] at es
        obtain ⟨hi, hn0⟩ : br < h.n ∧ h0.n ≤ h.n := ⟨R.hi, E0.n⟩
        cases hp : placeAt r.seats a.n b.n with
        | some q =>
          have hpv : placeV r.seats sq.row sq.x = (q : Nat) := by unfold placeV; rw [es.1, es.2, hp]
          have hres : addR r t0 [a, b, c'] = (r, false) := by simp [addR, z1, z2, z3, hwp, hp]
          have q0 : (0 : Int) ≤ (q : Nat) := by omega
          simp -implicitDefEqProofs [callQ, hpv, q0, g0, g7, x7]
          intro _
          exact ⟨by rw [hres], E0, by rw [hres]; intro q; cases q⟩
        | none =>
          have hpv : placeV r.seats sq.row sq.x = -1 := by unfold placeV; rw [es.1, es.2, hp]
          have hres : addR r t0 [a, b, c'] = ({ r with seats := r.seats ++ [sq] }, decide ((r.seats ++ [sq]).length ≤ 4096)) := by simp [addR, z1, z2, z3, hwp, hp, hsq]
          obtain ⟨rfl, hko⟩ := id R.seats
          have o2' : ¬ br = h.n := by omega
          have o3' : ¬ br = h.n + 1 := by omega
          cases os with
          | none =>
            simp only at hko
            rw [hko] at hpv
            simp -implicitDefEqProofs [callQ, hpv, g0, g7, x7, hbr, hko, opBuildSlice, hr4, hr1, opAppend, srcCells, maxA, o2', o3']
            intro _
            have key := R.seatP E0 (v := .bool true) sq (cells := seatC sq) (by rw [hko]; rfl) hres (by rw [hko]; rfl)
            rw [hko] at key
            exact key
          | some bk =>
            simp only at hko
            obtain ⟨hk1, hk2, hk3⟩ := hko
            obtain ⟨K, hK⟩ : ∃ K, K = r.seats.flatMap seatC := ⟨_, rfl⟩
            have hKl : K.length = r.seats.length * 4 := by have := flatA_len 4 (enc := seatC) (fun _ => rfl) r.seats; rw [← hK] at this; omega
            rw [← hK] at hk1
            have hmx : (r.seats.length + 1) * 32 ≤ 140737488355328 := by have := hr.1; omega
            have o1' : ¬ bk = h.n := by omega
            have o4' : ¬ br = bk := by rintro rfl; rw [hbr] at hk1; simp at hk1
            have e8 : K.take (r.seats.length * 4) = K := List.take_of_length_le (by omega)
            simp -implicitDefEqProofs [callQ, hpv, g0, g7, x7, hbr, opBuildSlice, hr4, hr1, opAppend, srcCells, maxA, hk1, hKl, hmx, o1', o2', o3', o4', e8]
            intro _
            have key := R.seatP E0 (v := .bool (decide ((r.seats.length : Int) + 1 ≤ 4096))) sq (cells := K ++ seatC sq) (by rw [hK]) hres (by congr 1; rw [decide_eq_decide, List.length_append, List.length_singleton]; omega)
            exact key
end Go.Proofs.Yph
/- A line at the reference's reader. -/
namespace Go.Proofs.Yph
open Go Go.Am
set_option maxRecDepth 20000
set_option maxHeartbeats 4000000
open T (Tok tokC tokV spotV TokS)
open V (SeatR PoleR VenR seatC poleC intC inB IntS)
open F (FR ChA GlobOK)
def RLineP (h0 : Heap) (r : Rd) (t0 : Tok) (rest : List Tok) (bl bc : Int) (ks : List Int) (br : Nat) (v : Value) (h' : Heap) : Prop := Ext h0 h' ∧ match lineErr (t0 :: rest) bl bc with
  | some e => v = .tuple #[spotV e.1 e.2, .bool false]
  | none => v = .tuple #[spotV t0.line t0.col, .bool (addR r t0 rest).2] ∧ ((addR r t0 rest).2 = true → RfE h0 h' (addR r t0 rest).1 ks br)
def J32a (h : Heap) (br : Nat) (tv : Value) (w : List UInt8) (bs : List Nat) (rest : List Tok) (bl bc : Int) (n m : Nat) (σ : St) : Prop := ∃ k : Nat, m = n - k ∧ k ≤ n ∧ k ≤ rest.length ∧ σ.m.h = h ∧ numChk bl bc bs rest = numChk bl bc (bs.drop k) (rest.drop k) ∧
  σ.t.get 0 = some (.pointer (some ⟨br, 0, none⟩)) ∧ σ.t.get 1 = some tv ∧ σ.t.get 5 = some (.pointer (some ⟨5, 0, some 0⟩)) ∧ σ.t.get 6 = some (.pointer (some ⟨6, 0, some 0⟩)) ∧ σ.t.get 8 = some (.string (B w)) ∧ σ.t.get 9 = some (.int .i64 (n : Nat)) ∧ σ.t.get 10 = some (.int .i64 (k : Nat)) ∧
  σ.m.x.look 5 = some (27, [.int .i64 bl, .int .i64 bc]) ∧ σ.m.x.look 6 = some (27, [.int .i64 0, .int .i64 0])
def J32b (h : Heap) (br : Nat) (tv : Value) (w : List UInt8) (bs : List Nat) (rest : List Tok) (n m : Nat) (σ : St) : Prop := ∃ k : Nat, m = n - k ∧ k ≤ n ∧ σ.m.h = h ∧ numMay bs rest = numMay (bs.drop k) (rest.drop k) ∧
  σ.t.get 0 = some (.pointer (some ⟨br, 0, none⟩)) ∧ σ.t.get 1 = some tv ∧ σ.t.get 6 = some (.pointer (some ⟨6, 0, some 0⟩)) ∧ σ.t.get 8 = some (.string (B w)) ∧ σ.t.get 9 = some (.int .i64 (n : Nat)) ∧ σ.t.get 12 = some (.int .i64 (k : Nat)) ∧
  σ.m.x.look 6 = some (27, [.int .i64 0, .int .i64 0])
theorem rline_ok (h0 h : Heap) (r : Rd) (t0 : Tok) (rest : List Tok) (bl bc : Int) (ks : List Int) (br : Nat) (tv : Value) (hl : rest.length ≤ 1073741824)
    (E0 : Ext h0 h) (R : RfE h0 h r ks br) (hr : rdSmall r) (ht : TokS h tv (t0 :: rest)) : ACalls PP 32 [.pointer (some ⟨br, 0, none⟩), tv, spotV bl bc] h (RLineP h0 r t0 rest bl bc ks br) := by
  refine acalls_of_vc mix fn32 bodyEq32 rfl (by show 3 ≤ 93; decide) ok32 ?_
  simp only [body32, Tryz.f32]
  obtain ⟨ad, c, rfl, _⟩ := id ht
  obtain ⟨_, bt, off, wt, cells, r0, rfl, e2, e3, e4, e5⟩ := ht.at (i := 0) (t := t0) rfl
  have hta := fun i t hi => tok_all ht e2 (i := i) (t := t) hi
  obtain ⟨⟨_, d0⟩, _, l0⟩ := hta 0 t0 rfl
  simp only [Nat.one_mul, Nat.zero_mul, Nat.add_zero] at d0 l0 e3
  have l1 : off + 1 ≤ cells.length := by omega
  obtain ⟨_, _, d4⟩ := tok_drop e3
  have l4 : off + 4 + 1 ≤ cells.length := by omega
  have sp0 := fun h => rspot_ok t0 h
  simp only [tokV, tokC] at sp0
  have frm := form_ok t0.text h
  simp -implicitDefEqProofs [e2, d0, d4, l0, l1, l4, spotV]
  refine frm.mono ?_
  rintro v H2 ⟨e, rfl⟩
  replace e := e.symm
  subst e
  have fin : wordB t0 = none → RLineP h0 r t0 rest bl bc ks br (.tuple #[spotV t0.line t0.col, .bool false]) h := fun hw => by
    have hle : lineErr (t0 :: rest) bl bc = some (t0.line, t0.col) := by simp only [lineErr, hw]
    refine ⟨E0, ?_⟩
    rw [hle]
  cases hbn : bnds t0.text with
  | none =>
    have hw : wordB t0 = none := by unfold wordB; rw [hbn]; split <;> rfl
    have hfm : formV t0.text = -1 := by unfold formV; rw [hbn]
    by_cases hk : t0.kind = 1
    all_goals
      simp -implicitDefEqProofs [callQ, hfm, e2, d0, d4, l0, l1, l4, hk]
      intro _
      try rw [hk] at sp0
      refine (sp0 _).mono ?_
      rintro r1 H2 ⟨e, rfl⟩
      replace e := e.symm
      subst e
      simp -implicitDefEqProofs [callQ, spotV]
      intro _
      exact fin hw
  | some bs =>
    obtain ⟨hb3, hb1, hbf⟩ := bnds_le hbn
    obtain ⟨n, hn⟩ : ∃ n, n = bs.length := ⟨_, rfl⟩
    have hfm : formV t0.text = (n : Nat) := by unfold formV; rw [hbn, hn]
    rw [← hn] at hb3 hb1
    by_cases hk : t0.kind = 1
    rotate_left
    · have hw : wordB t0 = none := by unfold wordB; rw [if_neg hk]
      simp -implicitDefEqProofs [callQ, hfm, e2, d0, d4, l0, l1, l4, hk]
      intro _
      refine (sp0 _).mono ?_
      rintro r1 H2 ⟨e, rfl⟩
      replace e := e.symm
      subst e
      simp -implicitDefEqProofs [callQ, spotV]
      intro _
      exact fin hw
    · have hw : wordB t0 = some bs := by unfold wordB; rw [if_pos hk]; exact hbn
      have hn0 : ¬ (n : Int) < 0 := by omega
      simp -implicitDefEqProofs [callQ, hfm, e2, d0, d4, l0, l1, l4, hk, hn0]
      intro _
      refine vc_loop (J32a h br (.slice (some ⟨bt, off, none⟩) (rest.length + 1) c) t0.text bs rest bl bc n) n ⟨0, by omega, by omega, by omega, rfl, rfl, by simp, by simp, by simp, by simp, by simp, by simp, by simp, by simp, by simp⟩ ?_
      rintro m ⟨T, ⟨x, H⟩⟩ ⟨k, rfl, hk1, hk2, hH, hch, g0, g1, g5, g6, g8, g9, g10, x5, x6⟩
      simp at hH g0 g1 g5 g6 g8 g9 g10 x5 x6
      subst hH
      simp -implicitDefEqProofs [g0, g1, g5, g6, g8, g9, g10, x5, x6]
      refine condQ_of (fun hc => ?_) (fun hc => ?_) <;> simp only [decide_eq_true_eq, decide_eq_false_iff_not] at hc
      · have w1 : IntKind.wrap .i64 ((k : Int) + 1) = ((k + 1 : Nat) : Int) := by rw [i64wrap (by omega)]; omega
        have hkb : k < bs.length := by omega
        obtain ⟨bx, br', hbd⟩ : ∃ x r, bs.drop k = x :: r := ⟨_, _, List.drop_eq_getElem_cons hkb⟩
        by_cases hend : rest.length ≤ k
        · have hke : k = rest.length := by omega
          have hle : lineErr (t0 :: rest) bl bc = some (bl, bc) := by
            simp only [lineErr, hw, numErr, hch]
            rw [hbd, hke, List.drop_length]
            rfl
          simp -implicitDefEqProofs [g0, g1, g5, g6, g8, g9, g10, x5, x6, w1, hend]
          refine ⟨E0, ?_⟩
          rw [hle]
          rfl
        · have hkr : k < rest.length := by omega
          obtain ⟨t, htt⟩ : ∃ t, t = rest[k] := ⟨_, rfl⟩
          have hget : (t0 :: rest)[k + 1]? = some t := by rw [List.getElem?_cons_succ, htt]; exact List.getElem?_eq_getElem hkr
          have hrd : rest.drop k = t :: rest.drop (k + 1) := by rw [htt]; exact List.drop_eq_getElem_cons hkr
          obtain ⟨⟨_, p0⟩, _, pl⟩ := hta _ _ hget
          have k0 : (0 : Int) ≤ (k : Int) + 1 := by omega
          have hbd2 : bs.drop k = bx :: bs.drop (k + 1) := by
            have := List.drop_eq_getElem_cons hkb
            rw [this] at hbd ⊢
            simp only [List.cons.injEq] at hbd
            rw [hbd.1]
          by_cases ht2 : t.kind = 2
          · have hch2 : numChk bl bc bs rest = numChk bl bc (bs.drop (k + 1)) (rest.drop (k + 1)) := by rw [hch, hbd2, hrd, numChk, if_pos ht2]
            simp -implicitDefEqProofs [g0, g1, g5, g6, g8, g9, g10, x5, x6, w1, hend, hkr, k0, e2, p0, pl, ht2]
            exact ⟨n - (k + 1), by omega, k + 1, rfl, by omega, by omega, rfl, hch2, by simp [g0], by simp [g1], by simp [g5], by simp [g6], by simp [g8], by simp [g9], by simp, by simp [x5], by simp [x6]⟩
          · have hle : lineErr (t0 :: rest) bl bc = some (t.line, t.col) := by
              simp only [lineErr, hw, numErr, hch]
              rw [hbd2, hrd, numChk, if_neg ht2]
            have spt := rspot_ok t H
            simp only [tokV, tokC] at spt
            simp -implicitDefEqProofs [g0, g1, g5, g6, g8, g9, g10, x5, x6, w1, hend, hkr, k0, e2, p0, pl, ht2]
            refine spt.mono ?_
            rintro r1 H2 ⟨e, rfl⟩
            replace e := e.symm
            subst e
            simp -implicitDefEqProofs [callQ, spotV]
            intro _
            refine ⟨E0, ?_⟩
            rw [hle]
            rfl
      · have hkn : k = n := by omega
        subst hkn
        have hch0 : numChk bl bc bs rest = none := by rw [hch, List.drop_of_length_le (by omega)]; rfl
        have w1 : IntKind.wrap .i64 ((k : Int) + 1) = ((k + 1 : Nat) : Int) := by rw [i64wrap (by omega)]; omega
        by_cases hmore : k < rest.length
        · obtain ⟨t, htt⟩ : ∃ t, t = rest[k] := ⟨_, rfl⟩
          have hget : (t0 :: rest)[k + 1]? = some t := by rw [List.getElem?_cons_succ, htt]; exact List.getElem?_eq_getElem hmore
          have hrd : rest.drop k = t :: rest.drop (k + 1) := by rw [htt]; exact List.drop_eq_getElem_cons hmore
          obtain ⟨⟨_, p0⟩, _, pl⟩ := hta _ _ hget
          have k0 : (0 : Int) ≤ (k : Int) + 1 := by omega
          have hle : lineErr (t0 :: rest) bl bc = some (t.line, t.col) := by
            simp only [lineErr, hw, numErr, hch0]
            rw [← hn, hrd]
          have spt := rspot_ok t H
          simp only [tokV, tokC] at spt
          simp -implicitDefEqProofs [g0, g1, g5, g6, g8, g9, g10, x5, x6, w1, k0, hmore, e2, p0, pl]
          refine spt.mono ?_
          rintro r1 H2 ⟨e, rfl⟩
          replace e := e.symm
          subst e
          simp -implicitDefEqProofs [callQ, spotV]
          intro _
          refine ⟨E0, ?_⟩
          rw [hle]
          rfl
        · have hkl : k = rest.length := by omega
          have hle0 : lineErr (t0 :: rest) bl bc = numMay bs rest := by
            simp only [lineErr, hw, numErr, hch0]
            rw [← hn, hkl, List.drop_length]
          have hmore' : ¬ ((k : Int) + 1 < (rest.length : Int) + 1) := by omega
          simp -implicitDefEqProofs [g0, g1, g5, g6, g8, g9, g10, x5, x6, w1, hmore, hmore']
          refine vc_loop (J32b H br (.slice (some ⟨bt, off, none⟩) (rest.length + 1) c) t0.text bs rest k) k ⟨0, by omega, by omega, rfl, rfl, by simp, by simp, by simp, by simp, by simp, by simp, by simp [x6]⟩ ?_
          clear g0 g1 g5 g6 g8 g9 g10 x5 x6 hk1 hk2 hch hc
          rintro m ⟨Tg, ⟨x, H'⟩⟩ ⟨j, rfl, hj, hH, hmay, g0, g1, g6, g8, g9, g12, x6⟩
          simp at hH g0 g1 g6 g8 g9 g12 x6
          replace hH := hH.symm
          subst hH
          simp -implicitDefEqProofs [g0, g1, g6, g8, g9, g12, x6]
          refine condQ_of (fun hc2 => ?_) (fun hc2 => ?_) <;> simp only [decide_eq_true_eq, decide_eq_false_iff_not] at hc2
          · have hjr : j < rest.length := by omega
            have hjb : j < bs.length := by omega
            obtain ⟨t, htt⟩ : ∃ t, t = rest[j] := ⟨_, rfl⟩
            obtain ⟨f, hf⟩ : ∃ f, f = bs[j] := ⟨_, rfl⟩
            have hfg : bs[j]? = some f := by rw [hf]; exact List.getElem?_eq_getElem hjb
            have hbd : bs.drop j = f :: bs.drop (j + 1) := by rw [hf]; exact List.drop_eq_getElem_cons hjb
            have hrd : rest.drop j = t :: rest.drop (j + 1) := by rw [htt]; exact List.drop_eq_getElem_cons hjr
            have hget : (t0 :: rest)[j + 1]? = some t := by rw [List.getElem?_cons_succ, htt]; exact List.getElem?_eq_getElem hjr
            obtain ⟨⟨_, p0⟩, ⟨_, p1⟩, pl⟩ := hta _ _ hget
            have k0 : (0 : Int) ≤ (j : Int) + 1 := by omega
            have pl2 : off + (j + 1) * 5 + 1 + 1 ≤ cells.length := by omega
            have w2 : IntKind.wrap .i64 ((j : Int) + 1) = ((j + 1 : Nat) : Int) := by rw [i64wrap (by omega)]; omega
            have lts := lets_ok t0.text (j : Nat) t.n H
            rw [lets_may hbn hfg] at lts
            simp -implicitDefEqProofs [g0, g1, g6, g8, g9, g12, x6, w2, k0, hjr, e2, p1, pl2]
            refine lts.mono ?_
            rintro r1 H2 ⟨e, rfl⟩
            replace e := e.symm
            subst e
            cases hmf : mayF f t.n with
            | true =>
              simp -implicitDefEqProofs [callQ, g0, g1, g6, g8, g9, g12, x6, w2]
              intro _
              exact ⟨k - (j + 1), by omega, j + 1, rfl, by omega, rfl, by rw [hmay, hbd, hrd, numMay, if_pos hmf], by simp [g0], by simp [g1], by simp [g6], by simp [g8], by simp [g9], by simp, by simp [x6]⟩
            | false =>
              have hle : lineErr (t0 :: rest) bl bc = some (t.line, t.col) := by
                rw [hle0, hmay, hbd, hrd, numMay, hmf]; rfl
              have spt := rspot_ok t H
              simp only [tokV, tokC] at spt
              simp -implicitDefEqProofs [callQ, g0, g1, g6, g8, g9, g12, x6, w2, k0, hjr, e2, p0, pl]
              intro _
              refine spt.mono ?_
              rintro r1 H2 ⟨e, rfl⟩
              replace e := e.symm
              subst e
              simp -implicitDefEqProofs [callQ, spotV]
              intro _
              refine ⟨E0, ?_⟩
              rw [hle]
              rfl
          · have hje : j = rest.length := by omega
            have hnone : numMay bs rest = none := by rw [hmay, hje, List.drop_length]; cases bs.drop rest.length <;> rfl
            have rad := radd_ok h0 H r t0 rest bs hbn (by omega) hnone ks br _ E0 R hr ht
            simp -implicitDefEqProofs [g0, g1, g6, g8, g9, g12, x6, e2, d0, l0]
            refine (sp0 _).mono ?_
            rintro r1 H2 ⟨e, rfl⟩
            replace e := e.symm
            subst e
            simp -implicitDefEqProofs [callQ, spotV, g0, g1, g6, g8, g9, g12, x6, e2, d0, l0]
            intro _
            refine rad.mono ?_
            rintro v H3 ⟨rfl, E3, hR3⟩
            simp -implicitDefEqProofs [callQ, g0, g1, g6, g8, g9, g12, x6]
            intro _
            refine ⟨E3, ?_⟩
            rw [hle0, hnone]
            exact ⟨rfl, hR3⟩
end Go.Proofs.Yph
namespace Go.Proofs
open Go.Shelf Go.RowKit Go.Lib Go.Sort
def Tryz.sortSeats_ren : Go.Shelf.Ren := ⟨fun | 6 => 52 | 15 => 84 | 14 => 83 | 28 => 105 | 29 => 106 | 20 => 97 | 21 => 98 | 22 => 99 | 23 => 100 | 24 => 101 | 25 => 102 | 26 => 103 | 27 => 104 | 46 => 121 | 47 => 122 | 48 => 123 | 49 => 124 | 50 => 125 | 57 => 131 | n => n, fun | 22 => 30 | 24 => 57 | 25 => 124 | 3 => 3 | 39 => 49 | 0 => 0 | 53 => 174 | 55 => 136 | 4 => 4 | 46 => 168 | 45 => 167 | 50 => 119 | 5 => 5 | 9 => 9 | 66 => 182 | 70 => 186 | 76 => 190 | 77 => 191 | n => n, fun | n => n⟩
theorem Tryz.sortSeats : SlLaysF0.n6 Tryz.prog Tryz.sortSeats_ren := {
  mixed := by kernel_rfl,
  f6 := ⟨Tryz.f52.name, by decide, Tryz.func52.trans (congrArg some (by kernel_rfl))⟩,
  f14 := ⟨Tryz.f83.name, by decide, Tryz.func83.trans (congrArg some (by kernel_rfl))⟩,
  f15 := Tryz.func84.trans (congrArg some (by kernel_rfl)),
  f20 := ⟨Tryz.f97.name, by decide, Tryz.func97.trans (congrArg some (by kernel_rfl))⟩,
  f21 := ⟨Tryz.f98.name, by decide, Tryz.func98.trans (congrArg some (by kernel_rfl))⟩,
  f22 := ⟨Tryz.f99.name, by decide, Tryz.func99.trans (congrArg some (by kernel_rfl))⟩,
  f23 := ⟨Tryz.f100.name, by decide, Tryz.func100.trans (congrArg some (by kernel_rfl))⟩,
  f24 := ⟨Tryz.f101.name, by decide, Tryz.func101.trans (congrArg some (by kernel_rfl))⟩,
  f25 := ⟨Tryz.f102.name, by decide, Tryz.func102.trans (congrArg some (by kernel_rfl))⟩,
  f26 := ⟨Tryz.f103.name, by decide, Tryz.func103.trans (congrArg some (by kernel_rfl))⟩,
  f27 := ⟨Tryz.f104.name, by decide, Tryz.func104.trans (congrArg some (by kernel_rfl))⟩,
  f28 := Tryz.func105.trans (congrArg some (by kernel_rfl)),
  f29 := Tryz.func106.trans (congrArg some (by kernel_rfl)),
  f46 := ⟨Tryz.f121.name, by decide, Tryz.func121.trans (congrArg some (by kernel_rfl))⟩,
  f47 := Tryz.func122.trans (congrArg some (by kernel_rfl)),
  f48 := Tryz.func123.trans (congrArg some (by kernel_rfl)),
  f49 := ⟨Tryz.f124.name, by decide, Tryz.func124.trans (congrArg some (by kernel_rfl))⟩,
  f50 := ⟨Tryz.f125.name, by decide, Tryz.func125.trans (congrArg some (by kernel_rfl))⟩,
  f57 := ⟨Tryz.f131.name, by decide, Tryz.func131.trans (congrArg some (by kernel_rfl))⟩,
  t0 := Tryz.underlying0,
  a0 := Tryz.isAgg0,
  z0 := Tryz.sizeOf0,
  v0 := Tryz.zeroValue0,
  t3 := Tryz.underlying3,
  a3 := Tryz.isAgg3,
  z3 := Tryz.sizeOf3,
  v3 := Tryz.zeroValue3,
  t4 := Tryz.underlying4,
  a4 := Tryz.isAgg4,
  z4 := Tryz.sizeOf4,
  v4 := Tryz.zeroValue4,
  t5 := Tryz.underlying5,
  a5 := Tryz.isAgg5,
  z5 := Tryz.sizeOf5,
  v5 := Tryz.zeroValue5,
  t9 := Tryz.underlying9,
  a9 := Tryz.isAgg9,
  z9 := Tryz.sizeOf9,
  v9 := Tryz.zeroValue9,
  t22 := Tryz.underlying30,
  a22 := Tryz.isAgg30,
  z22 := Tryz.sizeOf30,
  v22 := Tryz.zeroValue30,
  t25 := Tryz.underlying124,
  a25 := Tryz.isAgg124,
  z25 := Tryz.sizeOf124,
  v25 := Tryz.zeroValue124,
  t39 := Tryz.underlying49,
  a39 := Tryz.isAgg49,
  z39 := Tryz.sizeOf49,
  v39 := Tryz.zeroValue49,
  t45 := Tryz.underlying167,
  a45 := Tryz.isAgg167,
  z45 := Tryz.sizeOf167,
  v45 := Tryz.zeroValue167,
  t46 := Tryz.underlying168,
  a46 := Tryz.isAgg168,
  z46 := Tryz.sizeOf168,
  v46 := Tryz.zeroValue168,
  t50 := Tryz.underlying119,
  a50 := Tryz.isAgg119,
  z50 := Tryz.sizeOf119,
  v50 := Tryz.zeroValue119,
  t53 := Tryz.underlying174,
  a53 := Tryz.isAgg174,
  z53 := Tryz.sizeOf174,
  v53 := Tryz.zeroValue174,
  t55 := Tryz.underlying136,
  a55 := Tryz.isAgg136,
  z55 := Tryz.sizeOf136,
  v55 := Tryz.zeroValue136,
  t66 := Tryz.underlying182,
  a66 := Tryz.isAgg182,
  z66 := Tryz.sizeOf182,
  v66 := Tryz.zeroValue182,
  t70 := Tryz.underlying186,
  a70 := Tryz.isAgg186,
  z70 := Tryz.sizeOf186,
  v70 := Tryz.zeroValue186,
  t76 := Tryz.underlying190,
  a76 := Tryz.isAgg190,
  z76 := Tryz.sizeOf190,
  v76 := Tryz.zeroValue190,
  t77 := Tryz.underlying191,
  a77 := Tryz.isAgg191,
  z77 := Tryz.sizeOf191,
  v77 := Tryz.zeroValue191 }
def Tryz.sortInts_ren : Go.Shelf.Ren := ⟨fun | 189 => 57 | 125 => 84 | 257 => 85 | 128 => 105 | 129 => 106 | 294 => 107 | 295 => 108 | 296 => 109 | 297 => 110 | 298 => 111 | 299 => 112 | 216 => 113 | 300 => 114 | 301 => 115 | 328 => 126 | 329 => 122 | 330 => 123 | 331 => 127 | 332 => 128 | 215 => 129 | 343 => 132 | n => n, fun | 28 => 22 | 3 => 3 | 46 => 49 | 0 => 0 | 51 => 174 | 53 => 136 | 4 => 4 | 183 => 168 | 182 => 167 | 131 => 119 | 5 => 5 | 9 => 9 | 218 => 182 | 222 => 186 | 228 => 190 | 229 => 191 | n => n, fun | n => n⟩
theorem Tryz.sortInts : Lays.n189 Tryz.prog Tryz.sortInts_ren := {
  mixed := by kernel_rfl,
  f125 := Tryz.func84.trans (congrArg some (by kernel_rfl)),
  f128 := Tryz.func105.trans (congrArg some (by kernel_rfl)),
  f129 := Tryz.func106.trans (congrArg some (by kernel_rfl)),
  f189 := Tryz.func57.trans (congrArg some (by kernel_rfl)),
  f215 := Tryz.func129.trans (congrArg some (by kernel_rfl)),
  f216 := Tryz.func113.trans (congrArg some (by kernel_rfl)),
  f257 := Tryz.func85.trans (congrArg some (by kernel_rfl)),
  f294 := Tryz.func107.trans (congrArg some (by kernel_rfl)),
  f295 := Tryz.func108.trans (congrArg some (by kernel_rfl)),
  f296 := Tryz.func109.trans (congrArg some (by kernel_rfl)),
  f297 := Tryz.func110.trans (congrArg some (by kernel_rfl)),
  f298 := Tryz.func111.trans (congrArg some (by kernel_rfl)),
  f299 := Tryz.func112.trans (congrArg some (by kernel_rfl)),
  f300 := Tryz.func114.trans (congrArg some (by kernel_rfl)),
  f301 := Tryz.func115.trans (congrArg some (by kernel_rfl)),
  f328 := Tryz.func126.trans (congrArg some (by kernel_rfl)),
  f329 := Tryz.func122.trans (congrArg some (by kernel_rfl)),
  f330 := Tryz.func123.trans (congrArg some (by kernel_rfl)),
  f331 := Tryz.func127.trans (congrArg some (by kernel_rfl)),
  f332 := Tryz.func128.trans (congrArg some (by kernel_rfl)),
  f343 := Tryz.func132.trans (congrArg some (by kernel_rfl)),
  t0 := Tryz.underlying0,
  a0 := Tryz.isAgg0,
  z0 := Tryz.sizeOf0,
  v0 := Tryz.zeroValue0,
  t3 := Tryz.underlying3,
  a3 := Tryz.isAgg3,
  z3 := Tryz.sizeOf3,
  v3 := Tryz.zeroValue3,
  t4 := Tryz.underlying4,
  a4 := Tryz.isAgg4,
  z4 := Tryz.sizeOf4,
  v4 := Tryz.zeroValue4,
  t5 := Tryz.underlying5,
  a5 := Tryz.isAgg5,
  z5 := Tryz.sizeOf5,
  v5 := Tryz.zeroValue5,
  t9 := Tryz.underlying9,
  a9 := Tryz.isAgg9,
  z9 := Tryz.sizeOf9,
  v9 := Tryz.zeroValue9,
  t28 := Tryz.underlying22,
  a28 := Tryz.isAgg22,
  z28 := Tryz.sizeOf22,
  v28 := Tryz.zeroValue22,
  t46 := Tryz.underlying49,
  a46 := Tryz.isAgg49,
  z46 := Tryz.sizeOf49,
  v46 := Tryz.zeroValue49,
  t51 := Tryz.underlying174,
  a51 := Tryz.isAgg174,
  z51 := Tryz.sizeOf174,
  v51 := Tryz.zeroValue174,
  t53 := Tryz.underlying136,
  a53 := Tryz.isAgg136,
  z53 := Tryz.sizeOf136,
  v53 := Tryz.zeroValue136,
  t131 := Tryz.underlying119,
  a131 := Tryz.isAgg119,
  z131 := Tryz.sizeOf119,
  v131 := Tryz.zeroValue119,
  t182 := Tryz.underlying167,
  a182 := Tryz.isAgg167,
  z182 := Tryz.sizeOf167,
  v182 := Tryz.zeroValue167,
  t183 := Tryz.underlying168,
  a183 := Tryz.isAgg168,
  z183 := Tryz.sizeOf168,
  v183 := Tryz.zeroValue168,
  t218 := Tryz.underlying182,
  a218 := Tryz.isAgg182,
  z218 := Tryz.sizeOf182,
  v218 := Tryz.zeroValue182,
  t222 := Tryz.underlying186,
  a222 := Tryz.isAgg186,
  z222 := Tryz.sizeOf186,
  v222 := Tryz.zeroValue186,
  t228 := Tryz.underlying190,
  a228 := Tryz.isAgg190,
  z228 := Tryz.sizeOf190,
  v228 := Tryz.zeroValue190,
  t229 := Tryz.underlying191,
  a229 := Tryz.isAgg191,
  z229 := Tryz.sizeOf191,
  v229 := Tryz.zeroValue191 }
end Go.Proofs
namespace Go.Proofs.Yph.V
open Go Go.Am
theorem PP_eq : PP = Tryz.prog := by unfold PP; rfl
instance : Inhabited SeatR := ⟨⟨0, 0, 0, 0⟩⟩
theorem cmpS_lt (x y : SeatR) : ltOf cmpS x y = lessS x y := by
  unfold ltOf cmpS
  by_cases h1 : lessS x y = true
  · rw [if_pos h1, h1]; rfl
  · rw [if_neg h1]
    have : lessS x y = false := by simpa using h1
    rw [this]
    split <;> rfl
theorem lessS_iff (a b : SeatR) : lessS a b = true ↔ a.row < b.row ∨ (a.row = b.row ∧ a.x < b.x) := by
  simp [lessS]
theorem swoS : Go.Sort.SWO (ltOf cmpS) where
  irrefl x := by rw [cmpS_lt, ← Bool.not_eq_true, lessS_iff]; omega
  trans x y z h1 h2 := by rw [cmpS_lt, lessS_iff] at *; omega
  ntrans x y z h1 h2 := by rw [cmpS_lt, ← Bool.not_eq_true, lessS_iff] at *; omega
theorem flat_get {α : Type} [Inhabited α] (enc : α → List Value) (k : Nat) (hk : ∀ x, (enc x).length = k) (xs : List α) (j : Nat) (hj : j < xs.length * k) :
    (xs.flatMap enc)[j]? = some ((enc xs.toArray[j / k]!)[j % k]!) := by
  have hk0 : 0 < k := by rcases Nat.eq_zero_or_pos k with h | h; · subst h; simp at hj
                         · exact h
  have hq : j / k < xs.length := (Nat.div_lt_iff_lt_mul hk0).2 hj
  have hd := flatA_drop (enc := enc) k hk xs (j / k)
  have e : (xs.flatMap enc)[j]? = ((xs.flatMap enc).drop (j / k * k))[j % k]? := by
    rw [List.getElem?_drop]; congr 1
    have := Nat.div_add_mod j k
    rw [Nat.mul_comm] at this; omega
  rw [e, hd, List.drop_eq_getElem_cons hq, List.flatMap_cons, List.getElem?_append_left (by rw [hk]; exact Nat.mod_lt _ hk0)]
  have h2 : j % k < (enc xs[j / k]).length := by rw [hk]; exact Nat.mod_lt _ hk0
  have h3 : xs.toArray[j / k]! = xs[j / k] := by simp [hq]
  rw [List.getElem?_eq_getElem h2, h3]
  congr 1
  exact (getElem!_pos (enc xs[j / k]) (j % k) h2).symm
theorem seat_int (xs : List SeatR) (v : Value) (hm : v ∈ xs.flatMap seatC) : ∃ n, v = .int .i64 n := by
  obtain ⟨s, _, hs⟩ := List.mem_flatMap.1 hm
  simp only [seatC, List.mem_cons, List.not_mem_nil, or_false] at hs
  rcases hs with z | z | z | z <;> exact ⟨_, z⟩
def SortedS (ys : List SeatR) : Prop := ∀ (i j : Nat) (a b : SeatR), i < j → ys[i]? = some a → ys[j]? = some b → lessS b a = false
theorem sortF_ok (b c : Nat) (xs : List SeatR) (hn : xs ≠ []) (hl : xs.length ≤ 1073741824) (h : Heap) (hb : h.f b = .row true 57 (xs.flatMap seatC)) :
    ACalls PP 52 [.slice (some ⟨b, 0, none⟩) xs.length c, .func (.func 53) #[] #[]] h (fun r h' => r = .tuple #[] ∧ ∃ ys, ys.Perm xs ∧ SortedS ys ∧ h' = h.set b (.row true 57 (ys.flatMap seatC))) := by
  rw [PP_eq]
  refine ⟨⟨Tryz.f52, Tryz.func52, by kernel_rfl, by kernel_rfl⟩, fun ρ w args' hbx R V => ?_⟩
  obtain ⟨v0, hv0, V0⟩ := V.2 0 _ rfl
  obtain ⟨v1, hv1, V1⟩ := V.2 1 _ rfl
  have hargs : args' = [v0, v1] := by
    have := V.1
    match args', hv0, hv1, this with
    | [p, q], h0, h1, _ => simp at h0 h1; rw [h0, h1]
  subst hargs
  have e1 : v1 = .func (.func 53) #[] #[] := by
    cases V1 with
    | func fn p p' q q' ha hl _ _ =>
      have h1 : p' = [] := List.eq_nil_of_length_eq_zero ha.symm
      have h2 : q' = [] := List.eq_nil_of_length_eq_zero hl.symm
      subst h1; subst h2; rfl
  subst e1
  have hlen : 0 < xs.length := List.length_pos_iff.2 hn
  obtain ⟨pl, cap, hk, e0⟩ : ∃ pl cap, ρ (false, b) = some pl ∧ v0 = .slice (some ⟨pl.B, pl.o, none⟩) xs.length cap := by
    rcases V0.slice_some with ⟨a', e, _⟩ | ⟨b', off, pl, cap, e, hk, hc, hn', rfl⟩
    · omega
    · simp only [Addr.mk.injEq, and_true] at e
      obtain ⟨rfl, rfl⟩ := e
      exact ⟨pl, cap, hk, by simp⟩
  subst e0
  obtain ⟨C, e', fz, c1, c2, c3, c4, c5, c6⟩ := R.row (false, b) pl true 57 (xs.flatMap seatC) hk (by simp [Mem.row?, hb])
  obtain rfl := c2 rfl
  have hblk := R.bound _ _ hk
  have hfl : (xs.flatMap seatC).length = xs.length * 4 := flatA_len 4 seatC_len xs
  have hcell : ∀ j, j < xs.length * 4 → C[pl.o + j]? = some ((seatC xs.toArray[j / 4]!)[j % 4]!) := by
    intro j hj
    have hg := flat_get seatC 4 seatC_len xs j hj
    obtain ⟨v', q1, q2⟩ := c6 j _ hg
    rw [q1]
    congr 1
    refine q2.flat1 ?_
    have hm : (seatC xs.toArray[j / 4]!)[j % 4]! ∈ xs.flatMap seatC := List.mem_of_getElem? hg
    obtain ⟨n, hn⟩ := seat_int xs _ hm
    rw [hn]; rfl
  have hH : Go.Sort.HoldsK seatC 4 w pl.B pl.o xs.toArray := by
    intro j hj
    rw [Go.Sort.size_flatK] at hj
    have hj' : j < xs.length * 4 := by simpa using hj
    rw [Go.Sort.get_flatK _ _ _ _ hj]
    constructor
    · unfold World.cell?
      simp only [c1, Option.isSome_none]
      exact hcell j hj'
    · unfold World.frozen?
      simp only [c1]
      simp
  have hcmp : CmpLays Tryz.prog 53 #[] seatC 4 cmpS pl.B pl.o xs.toArray.size w := by
    intro m os dk _ x y
    have := (PP_eq ▸ cmp_ok x y h0 : ACalls Tryz.prog 53 [seatV x, seatV y] h0 _).grown (fun v h' q => q.2) rfl (fun v hv => by
      simp only [List.mem_cons, List.not_mem_nil, or_false] at hv
      rcases hv with z | z <;> rw [z] <;> rfl) (sortWorldK seatC 4 w pl.B pl.o m dk os)
    exact this
  have hcon := AnyQ.slices_SortFunc Tryz.sortSeats 4 Tryz.isAgg57 Tryz.sizeOf57 seatC seatC_len (fun x v hv => by
    simp only [seatC, List.mem_cons, List.not_mem_nil, or_false] at hv
    rcases hv with z | z | z | z <;> rw [z] <;> rfl) cmpS swoS 53 #[] pl.B pl.o cap xs.toArray w (enters_of Tryz.func53 (by kernel_rfl) rfl) hcmp hH hblk (by simp; omega)
  have hcon' : Calls Tryz.prog 52 ⟨[.slice (some ⟨pl.B, pl.o, none⟩) xs.length cap, .func (.func 53) #[] #[]]⟩ w _ := hcon
  refine hcon'.mono ?_
  rintro e w' ⟨rfl, d', n, os, hperm, hsort, rfl⟩
  obtain ⟨p1, p2, p3⟩ := hperm
  have hd : d'.size = xs.length := by simpa using p1
  have hdl : (d'.extract 0 xs.toArray.size).toList = d'.toList := by simp; rw [List.take_of_length_le (by simp [hd])]
  have hxl : (xs.toArray.extract 0 xs.toArray.size).toList = xs := by simp
  rw [hdl, hxl] at p3
  have hys : ∀ i a, d'.toList[i]? = some a → d'[i]! = a ∧ i < xs.length := by
    intro i a hi
    have hlt := (List.getElem?_eq_some_iff.mp hi).1
    have hlt' : i < d'.size := by simpa using hlt
    refine ⟨?_, by omega⟩
    rw [getElem!_pos d' i hlt']
    have := (List.getElem?_eq_some_iff.mp hi).2
    simpa using this
  refine ⟨.tuple #[], .tuple #[], _, ρ, rfl, ⟨rfl, d'.toList, p3, fun i j a b hij hi hj => ?_, rfl⟩, hbx, ?_⟩
  · obtain ⟨a1, a2⟩ := hys i a hi
    obtain ⟨b1, b2⟩ := hys j b hj
    have := hsort i j (Nat.zero_le _) hij (by simpa using b2)
    rw [cmpS_lt, a1, b1] at this
    exact this
  · have hfl' : (d'.toList.flatMap seatC).length = xs.length * 4 := by rw [flatA_len 4 seatC_len]; simp [hd]
    have hheap : (sortWorldK seatC 4 w pl.B pl.o n d' os).heap = (w.heap.modify pl.B (Go.Sort.onCells (Go.Sort.putCells id pl.o (Go.Sort.flatK seatC 4 d')))) ++ os := rfl
    have hsz : (w.heap.modify pl.B (Go.Sort.onCells (Go.Sort.putCells id pl.o (Go.Sort.flatK seatC 4 d')))).size = w.heap.size := by simp
    obtain ⟨q1, q2⟩ := turned R hk hb (cs' := d'.toList.flatMap seatC) (by rw [hfl', hfl]) (w' := sortWorldK seatC 4 w pl.B pl.o n d' os) rfl rfl rfl (Nat.le_add_right _ _) (by rw [hheap, Array.size_append, hsz]; omega)
      (fun B hB hne => by
        rw [hheap, Array.getElem?_append_left (by rw [hsz]; exact hB), Array.getElem?_modify, if_neg (Ne.symm hne)])
      (fun C2 e2 fz2 hC2 => by
        rw [c1] at hC2
        simp only [Option.some.injEq, Obj.cells.injEq] at hC2
        obtain ⟨rfl, rfl, rfl⟩ := hC2
        refine ⟨Go.Sort.putCells id pl.o (Go.Sort.flatK seatC 4 d') C, ?_, by simp [Go.Sort.putCells], fun i v hi => ?_⟩
        · rw [hheap, Array.getElem?_append_left (by rw [hsz]; exact hblk), Array.getElem?_modify, if_pos rfl, c1]; rfl
        · have hi' : i < xs.length * 4 := by have := (List.getElem?_eq_some_iff.mp hi).1; omega
          have hg := flat_get seatC 4 seatC_len d'.toList i (by simpa [hd] using hi')
          rw [hg] at hi
          obtain rfl := Option.some.inj hi
          have hin : pl.o + i < C.size := by omega
          refine ⟨(seatC d'[i / 4]!)[i % 4]!, ?_, ?_⟩
          · unfold Go.Sort.putCells
            rw [Array.getElem?_mapIdx, Array.getElem?_eq_getElem hin]
            simp only [Option.map_some, id]
            rw [if_pos ⟨by omega, by rw [Go.Sort.size_flatK, hd]; omega⟩, Nat.add_sub_cancel_left, Go.Sort.get_flatK _ _ _ _ (by rw [hd]; exact hi')]
          · simp only [Array.toArray_toList]
            have hm : (seatC d'[i / 4]!)[i % 4]! ∈ d'.toList.flatMap seatC := by
              have := List.mem_of_getElem? hg
              simpa using this
            obtain ⟨n, hn⟩ := seat_int _ _ hm
            rw [hn]; exact .int _ _)
    exact ⟨q1, q2, .of_flat2 rfl⟩
end Go.Proofs.Yph.V
namespace Go.Proofs.Yph.V
open Go Go.Am
set_option maxRecDepth 20000
set_option maxHeartbeats 2000000
theorem len64_0 (h : Heap) : ACalls PP 106 [.int .u64 0] h (fun v h' => h' = h ∧ v = .int .i64 0) := by
  refine acalls_of_vc mix fn106 bodyEq106 rfl (by show 1 ≤ 25; decide) ok106 ?_
  simp only [body106, Tryz.f106]
  have e1 : IntKind.wrap .u8 0 = 0 := rfl
  have e2 : IntKind.wrap .i64 0 = 0 := rfl
  simp -implicitDefEqProofs [e1, e2]
  rfl
theorem len_0 (h : Heap) : ACalls PP 84 [.int .u64 0] h (fun v h' => h' = h ∧ v = .int .i64 0) := by
  refine acalls_of_vc mix fn84 bodyEq84 rfl (by show 1 ≤ 8; decide) ok84 ?_
  simp only [body84, Tryz.f84]
  simp -implicitDefEqProofs
  refine (len64_0 h).mono ?_
  rintro v h' ⟨rfl, rfl⟩
  simp -implicitDefEqProofs [callQ]
def J49 (h : Heap) (n : Nat) (σ : St) : Prop := n = 0 ∧ σ.m.h = h ∧ σ.t.get 8 = some (.int .i64 1) ∧ σ.t.get 2 = some (.int .i64 0)
theorem ins_0 (ad : Option Addr) (c : Nat) (h : Heap) : ACalls PP 97 [.slice ad 0 c, .int .i64 0, .int .i64 0, .func (.func 53) #[] #[]] h (fun v h' => h' = h ∧ v = .tuple #[]) := by
  refine acalls_of_vc mix fn97 bodyEq97 rfl (by show 4 ≤ 53; decide) ok97 ?_
  simp only [body97, Tryz.f97]
  have e1 : IntKind.wrap .i64 1 = 1 := rfl
  simp -implicitDefEqProofs [e1]
  refine vc_loop (J49 h) _ ⟨rfl, rfl, by simp, by simp⟩ ?_
  rintro n ⟨T, ⟨x, H⟩⟩ ⟨rfl, hH, g8, g2⟩
  simp at hH g8 g2
  subst hH
  simp -implicitDefEqProofs [g8, g2]
def J43 (v : Value) (h : Heap) (n : Nat) (σ : St) : Prop := n = 0 ∧ σ.m.h = h ∧ σ.t.get 0 = some v ∧ σ.t.get 1 = some (.int .i64 0) ∧ σ.t.get 2 = some (.int .i64 0) ∧ σ.t.get 4 = some (.func (.func 53) #[] #[])
theorem pdq_0 (ad : Option Addr) (c : Nat) (h : Heap) : ACalls PP 83 [.slice ad 0 c, .int .i64 0, .int .i64 0, .int .i64 0, .func (.func 53) #[] #[]] h (fun v h' => h' = h ∧ v = .tuple #[]) := by
  refine acalls_of_vc mix fn83 bodyEq83 rfl (by show 5 ≤ 148; decide) ok83 ?_
  simp only [body83, Tryz.f83]
  simp -implicitDefEqProofs
  refine vc_loop (J43 (.slice ad 0 c) h) _ ⟨rfl, rfl, by simp, by simp, by simp, by simp⟩ ?_
  rintro n ⟨T, ⟨x, H⟩⟩ ⟨rfl, hH, g0, g1, g2, g4⟩
  simp at hH g0 g1 g2 g4
  subst hH
  have e1 : IntKind.wrap .i64 0 = 0 := rfl
  simp -implicitDefEqProofs [g0, g1, g2, g4, e1]
  refine (ins_0 ad c H).mono ?_
  rintro v h' ⟨rfl, rfl⟩
  simp -implicitDefEqProofs [callQ]
theorem sortF_0 (ad : Option Addr) (c : Nat) (h : Heap) : ACalls PP 52 [.slice ad 0 c, .func (.func 53) #[] #[]] h (fun v h' => h' = h ∧ v = .tuple #[]) := by
  refine acalls_of_vc mix fn52 bodyEq52 rfl (by show 2 ≤ 14; decide) ok52 ?_
  simp only [body52, Tryz.f52]
  have e1 : IntKind.wrap .u64 0 = 0 := rfl
  simp -implicitDefEqProofs [e1]
  refine (len_0 h).mono ?_
  rintro v h' ⟨rfl, rfl⟩
  simp -implicitDefEqProofs [callQ]
  intro _
  refine (pdq_0 ad c h').mono ?_
  rintro v h' ⟨rfl, rfl⟩
  simp -implicitDefEqProofs [callQ]
/-! the same of whole numbers -/
def J59 (h : Heap) (n : Nat) (σ : St) : Prop := n = 0 ∧ σ.m.h = h ∧ σ.t.get 6 = some (.int .i64 1) ∧ σ.t.get 2 = some (.int .i64 0)
def J45 (v : Value) (h : Heap) (n : Nat) (σ : St) : Prop := n = 0 ∧ σ.m.h = h ∧ σ.t.get 0 = some v ∧ σ.t.get 1 = some (.int .i64 0) ∧ σ.t.get 2 = some (.int .i64 0)
theorem insI_0 (ad : Option Addr) (c : Nat) (h : Heap) : ACalls PP 107 [.slice ad 0 c, .int .i64 0, .int .i64 0] h (fun v h' => h' = h ∧ v = .tuple #[]) := by
  refine acalls_of_vc mix fn107 bodyEq107 rfl (by show 3 ≤ 49; decide) ok107 ?_
  simp only [body107, Tryz.f107]
  have e1 : IntKind.wrap .i64 1 = 1 := rfl
  simp -implicitDefEqProofs [e1]
  refine vc_loop (J59 h) _ ⟨rfl, rfl, by simp, by simp⟩ ?_
  rintro n ⟨T, ⟨x, H⟩⟩ ⟨rfl, hH, g8, g2⟩
  simp at hH g8 g2
  subst hH
  simp -implicitDefEqProofs [g8, g2]
theorem pdqI_0 (ad : Option Addr) (c : Nat) (h : Heap) : ACalls PP 85 [.slice ad 0 c, .int .i64 0, .int .i64 0, .int .i64 0] h (fun v h' => h' = h ∧ v = .tuple #[]) := by
  refine acalls_of_vc mix fn85 bodyEq85 rfl (by show 4 ≤ 134; decide) ok85 ?_
  simp only [body85, Tryz.f85]
  simp -implicitDefEqProofs
  refine vc_loop (J45 (.slice ad 0 c) h) _ ⟨rfl, rfl, by simp, by simp, by simp⟩ ?_
  rintro n ⟨T, ⟨x, H⟩⟩ ⟨rfl, hH, g0, g1, g2⟩
  simp at hH g0 g1 g2
  subst hH
  have e1 : IntKind.wrap .i64 0 = 0 := rfl
  simp -implicitDefEqProofs [g0, g1, g2, e1]
  refine (insI_0 ad c H).mono ?_
  rintro v h' ⟨rfl, rfl⟩
  simp -implicitDefEqProofs [callQ]
theorem sortI_0 (ad : Option Addr) (c : Nat) (h : Heap) : ACalls PP 57 [.slice ad 0 c] h (fun v h' => h' = h ∧ v = .tuple #[]) := by
  refine acalls_of_vc mix fn57 bodyEq57 rfl (by show 1 ≤ 11; decide) ok57 ?_
  simp only [body57, Tryz.f57]
  have e1 : IntKind.wrap .u64 0 = 0 := rfl
  simp -implicitDefEqProofs [e1]
  refine (len_0 h).mono ?_
  rintro v h' ⟨rfl, rfl⟩
  simp -implicitDefEqProofs [callQ]
  intro _
  refine (pdqI_0 ad c h').mono ?_
  rintro v h' ⟨rfl, rfl⟩
  simp -implicitDefEqProofs [callQ]
def sortI (xs : List Int) : List Int := xs.mergeSort (fun x y => decide (x ≤ y))
theorem int_map (xs : List Int) : xs.flatMap intC = xs.map (Value.int .i64) := by
  induction xs with
  | nil => rfl
  | cons x r ih => rw [List.flatMap_cons, ih]; rfl
theorem int_get (xs : List Int) (j : Nat) (hj : j < xs.length) : (xs.flatMap intC)[j]? = some (.int .i64 xs[j]) := by
  rw [int_map, List.getElem?_map, List.getElem?_eq_getElem hj]; rfl
theorem sortI_ok (b c : Nat) (xs : List Int) (hn : xs ≠ []) (hl : xs.length ≤ 1073741824) (h : Heap) (hb : h.f b = .row true 3 (xs.flatMap intC)) :
    ACalls PP 57 [.slice (some ⟨b, 0, none⟩) xs.length c] h (fun r h' => r = .tuple #[] ∧ h' = h.set b (.row true 3 ((sortI xs).flatMap intC))) := by
  rw [PP_eq]
  refine ⟨⟨Tryz.f57, Tryz.func57, by kernel_rfl, by kernel_rfl⟩, fun ρ w args' hbx R V => ?_⟩
  obtain ⟨v0, hv0, V0⟩ := V.2 0 _ rfl
  have hargs : args' = [v0] := by
    have := V.1
    match args', hv0, this with
    | [p], h0, _ => simp at h0; rw [h0]
  subst hargs
  have hlen : 0 < xs.length := List.length_pos_iff.2 hn
  obtain ⟨pl, cap, hk, e0⟩ : ∃ pl cap, ρ (false, b) = some pl ∧ v0 = .slice (some ⟨pl.B, pl.o, none⟩) xs.length cap := by
    rcases V0.slice_some with ⟨a', e, _⟩ | ⟨b', off, pl, cap, e, hk, hc, hn', rfl⟩
    · omega
    · simp only [Addr.mk.injEq, and_true] at e
      obtain ⟨rfl, rfl⟩ := e
      exact ⟨pl, cap, hk, by simp⟩
  subst e0
  obtain ⟨C, e', fz, c1, c2, c3, c4, c5, c6⟩ := R.row (false, b) pl true 3 (xs.flatMap intC) hk (by simp [Mem.row?, hb])
  obtain rfl := c2 rfl
  have hblk := R.bound _ _ hk
  have hfl : (xs.flatMap intC).length = xs.length := by have := flatA_len 1 intC_len xs; omega
  have hcell : ∀ j (hj : j < xs.length), C[pl.o + j]? = some (.int .i64 xs[j]) := by
    intro j hj
    obtain ⟨v', q1, q2⟩ := c6 j _ (int_get xs j hj)
    rw [q1]
    congr 1
    exact q2.flat1 rfl
  have hH : Go.Sort.Holds (Value.int .i64) w pl.B pl.o xs.toArray := by
    intro j hj
    have hj' : j < xs.length := by simpa using hj
    have e : xs.toArray[j]! = xs[j] := by simp [hj']
    rw [e]
    constructor
    · unfold World.cell?
      simp only [c1, Option.isSome_none]
      exact hcell j hj'
    · unfold World.frozen?
      simp only [c1]
      simp
  have hcon' : Calls Tryz.prog 57 ⟨[.slice (some ⟨pl.B, pl.o, none⟩) xs.length cap]⟩ w _ := Any.slices_Sort_int Tryz.sortInts pl.B pl.o cap xs w hH hblk (by omega)
  refine hcon'.mono ?_
  rintro e w' ⟨rfl, n, os, rfl⟩
  have hd : (sortI xs).length = xs.length := List.length_mergeSort _
  refine ⟨.tuple #[], .tuple #[], _, ρ, rfl, ⟨rfl, rfl⟩, hbx, ?_⟩
  have hfl' : ((sortI xs).flatMap intC).length = xs.length := by have := flatA_len 1 intC_len (sortI xs); omega
  have hheap : (Go.Sort.grow (Go.Sort.putRow (Value.int .i64) (Go.Sort.ahead w n) pl.B pl.o (sortI xs).toArray) os).heap = (w.heap.modify pl.B (Go.Sort.onCells (Go.Sort.putCells (Value.int .i64) pl.o (sortI xs).toArray))) ++ os := rfl
  have hsz : (w.heap.modify pl.B (Go.Sort.onCells (Go.Sort.putCells (Value.int .i64) pl.o (sortI xs).toArray))).size = w.heap.size := by simp
  obtain ⟨q1, q2⟩ := turned R hk hb (cs' := (sortI xs).flatMap intC) (by rw [hfl', hfl]) (w' := Go.Sort.grow (Go.Sort.putRow (Value.int .i64) (Go.Sort.ahead w n) pl.B pl.o (sortI xs).toArray) os) rfl rfl rfl (Nat.le_add_right _ _) (by rw [hheap, Array.size_append, hsz]; omega)
    (fun B hB hne => by
      rw [hheap, Array.getElem?_append_left (by rw [hsz]; exact hB), Array.getElem?_modify, if_neg (Ne.symm hne)])
    (fun C2 e2 fz2 hC2 => by
      rw [c1] at hC2
      simp only [Option.some.injEq, Obj.cells.injEq] at hC2
      obtain ⟨rfl, rfl, rfl⟩ := hC2
      refine ⟨Go.Sort.putCells (Value.int .i64) pl.o (sortI xs).toArray C, ?_, by simp [Go.Sort.putCells], fun i v hi => ?_⟩
      · rw [hheap, Array.getElem?_append_left (by rw [hsz]; exact hblk), Array.getElem?_modify, if_pos rfl, c1]; rfl
      · have hi' : i < (sortI xs).length := by have := (List.getElem?_eq_some_iff.mp hi).1; omega
        rw [int_get _ i hi'] at hi
        obtain rfl := Option.some.inj hi
        have hin : pl.o + i < C.size := by omega
        refine ⟨.int .i64 (sortI xs)[i], ?_, .int _ _⟩
        unfold Go.Sort.putCells
        rw [Array.getElem?_mapIdx, Array.getElem?_eq_getElem hin]
        simp only [Option.map_some]
        rw [if_pos ⟨by omega, by simp; omega⟩, Nat.add_sub_cancel_left]
        simp [hi'])
  exact ⟨q1, q2, .of_flat2 rfl⟩
end Go.Proofs.Yph.V
namespace Go.Proofs.Yph.V
open Go Go.Am
set_option maxRecDepth 20000
set_option maxHeartbeats 2000000
/-- no two neighbours are equal -/
def NoAdj (xs : List Int) : Prop := ∀ (i : Nat) (a b : Int), xs[i]? = some a → xs[i + 1]? = some b → a ≠ b
def J28 (v : Value) (m : Nat) (h : Heap) (n : Nat) (σ : St) : Prop := ∃ i : Nat, n = m - i ∧ 1 ≤ i ∧ i ≤ m ∧ σ.m.h = h ∧ σ.t.get 0 = some v ∧ σ.t.get 3 = some (.int .i64 (i : Nat))
theorem compactN_ok (v : Value) (xs : List Int) (hl : xs.length ≤ 1073741824) (hx : NoAdj xs) (h : Heap) (hs : IntS h v xs) : ACalls PP 58 [v] h (fun r h' => h' = h ∧ r = v) := by
  refine acalls_of_vc mix fn58 bodyEq58 rfl (by show 1 ≤ 61; decide) ok58 ?_
  simp only [body58, Tryz.f58]
  obtain ⟨ad, c, rfl⟩ := hs.shape
  obtain ⟨m, hm⟩ : ∃ m, m = xs.length := ⟨_, rfl⟩
  rw [← hm] at hs ⊢
  by_cases h2 : (m : Int) < 2
  · simp -implicitDefEqProofs [h2]
  · simp -implicitDefEqProofs [h2]
    refine vc_loop (J28 (.slice ad m c) m h) _ ⟨1, rfl, by omega, by omega, rfl, by simp, by simp⟩ ?_
    rintro n ⟨T, ⟨x, H⟩⟩ ⟨i, rfl, hi1, hi, hH, g0, g3⟩
    simp at hH g0 g3
    subst hH
    simp -implicitDefEqProofs [g0, g3]
    refine condQ_of (fun hc => ?_) (fun hc => ?_) <;> simp only [decide_eq_true_eq, decide_eq_false_iff_not] at hc
    · have him : i < m := by omega
      obtain ⟨j, hj⟩ : ∃ j, j = i - 1 := ⟨_, rfl⟩
      have hjm : j < m := by omega
      have ha : xs[i]? = some xs[i] := List.getElem?_eq_getElem (by omega)
      have hb : xs[j]? = some xs[j] := List.getElem?_eq_getElem (by omega)
      obtain ⟨_, b1, o1, wb1, cs1, r1, rfl, hb1, hd1, hl1, _⟩ := hs.at 1 intC_len ha
      obtain ⟨_, b2, o2, wb2, cs2, r2, e1, hb2, hd2, hl2, _⟩ := hs.at 1 intC_len hb
      simp only [Option.some.injEq, Addr.mk.injEq, and_true] at e1
      obtain ⟨rfl, rfl⟩ := e1
      rw [hb1] at hb2
      simp only [Blk.row.injEq, true_and] at hb2
      obtain ⟨rfl, rfl⟩ := hb2
      have hne : ¬ xs[i] = xs[j] := by
        have := hx j _ _ hb (by rw [show j + 1 = i by omega]; exact ha)
        exact fun e => this e.symm
      rw [Nat.mul_one] at hd1 hd2 hl1 hl2
      have w1 : IntKind.wrap .i64 ((i : Int) + 1) = ((i + 1 : Nat) : Int) := by rw [i64wrap (by omega)]; omega
      have w2 : IntKind.wrap .i64 ((i : Int) - 1) = (j : Int) := by rw [i64wrap (by omega)]; omega
      simp -implicitDefEqProofs [g0, g3, him, hjm, hb1, hd1, hd2, hl1, hl2, intC, w2, hne, w1]
      exact ⟨m - (i + 1), by omega, i + 1, rfl, by omega, by omega, rfl, by simp [g0], by simp⟩
    · simp -implicitDefEqProofs [g0, g3]
/-! Norm -/
def killedL (v : VenR) : List SeatR := v.kills.map (fun k => v.seats.getD k.toNat default)
def killsIn (v : VenR) : Bool := v.kills.all (fun k => decide (0 ≤ k) && decide (k < v.seats.length))
def outV (v : VenR) (ys : List SeatR) : VenR := ⟨ys, v.gap, v.radius, sortI ((killedL v).map (fun s => findA (atS s) ys)), v.poles⟩
end Go.Proofs.Yph.V
namespace Go.Proofs.Yph.V
open Go Go.Am
set_option maxRecDepth 20000
set_option maxHeartbeats 2000000
def zVen : List Value := [.slice none 0 0, .int .i64 0, .int .i64 0, .slice none 0 0, .slice none 0 0]
def J11a (cs : List Value) (v : VenR) (ks : Value) (h : Heap) (n : Nat) (σ : St) : Prop := ∃ (i : Nat) (kv : Value), n = v.kills.length - i ∧ i ≤ v.kills.length ∧ Ext h σ.m.h ∧ OwA 57 seatC h σ.m.h kv ((killedL v).take i) ∧
  (∀ j k, j < i → v.kills[j]? = some k → 0 ≤ k ∧ k < v.seats.length) ∧
  σ.t.get 1 = some (.pointer (some ⟨1, 0, some 0⟩)) ∧ σ.t.get 2 = some (.pointer (some ⟨2, 0, some 0⟩)) ∧ σ.t.get 4 = some kv ∧ σ.t.get 11 = some ks ∧ σ.t.get 12 = some (.int .i64 (v.kills.length : Nat)) ∧ σ.t.get 13 = some (.int .i64 (i : Nat)) ∧
  σ.m.x.look 1 = some (33, cs) ∧ σ.m.x.look 2 = some (33, zVen)
theorem OwA.setNe {α : Type} {e : TypeId} {enc : α → List Value} {h0 h : Heap} {v : Value} {xs : List α} (H : OwA e enc h0 h v xs) {b : Nat} (cs : Blk) (hb : b < h0.n) : OwA e enc h0 (h.set b cs) v xs := by
  obtain ⟨ad, rfl, z⟩ := H
  refine ⟨ad, rfl, ?_⟩
  rcases z with z | ⟨b', z1, z2, z3, z4⟩
  · exact .inl z
  · exact .inr ⟨b', z1, by rw [f_set, if_neg (by omega), z2], z3, z4⟩
theorem sortF_any (v : Value) (xs : List SeatR) (h0 h : Heap) (hl : xs.length ≤ 1073741824) (H : OwA 57 seatC h0 h v xs) :
    ACalls PP 52 [v, .func (.func 53) #[] #[]] h (fun r h' => r = .tuple #[] ∧ ∃ ys, ys.Perm xs ∧ SortedS ys ∧ OwA 57 seatC h0 h' v ys ∧ (h' = h ∨ ∃ b n c cs, v = .slice (some ⟨b, 0, none⟩) n c ∧ h0.n ≤ b ∧ b < h.n ∧ h' = h.set b cs)) := by
  by_cases hx : xs = []
  · subst hx
    obtain ⟨ad, rfl, z⟩ := H
    refine (sortF_0 ad 0 h).mono ?_
    rintro r h' ⟨rfl, rfl⟩
    exact ⟨rfl, [], List.Perm.refl _, fun i j a b _ hi => by simp at hi, ⟨ad, rfl, z⟩, .inl rfl⟩
  · obtain ⟨ad, rfl, z⟩ := H
    rcases z with ⟨_, z⟩ | ⟨b, rfl, z2, z3, z4⟩
    · exact absurd z hx
    · refine (sortF_ok b _ xs hx hl h z2).mono ?_
      rintro r h' ⟨rfl, ys, hp, hs, rfl⟩
      have hll := hp.length_eq
      exact ⟨rfl, ys, hp, hs, ⟨_, by rw [hll], .inr ⟨b, rfl, by rw [f_set, if_pos rfl], z3, z4⟩⟩, .inr ⟨b, _, _, _, rfl, z3, z4, rfl⟩⟩
theorem sortI_any (v : Value) (xs : List Int) (h0 h : Heap) (hl : xs.length ≤ 1073741824) (H : OwA 3 intC h0 h v xs) :
    ACalls PP 57 [v] h (fun r h' => r = .tuple #[] ∧ OwA 3 intC h0 h' v (sortI xs) ∧ (h' = h ∨ ∃ b n c cs, v = .slice (some ⟨b, 0, none⟩) n c ∧ h0.n ≤ b ∧ b < h.n ∧ h' = h.set b cs)) := by
  by_cases hx : xs = []
  · subst hx
    obtain ⟨ad, rfl, z⟩ := H
    refine (sortI_0 ad 0 h).mono ?_
    rintro r h' ⟨rfl, rfl⟩
    have : sortI [] = [] := by simp [sortI]
    exact ⟨rfl, by rw [this]; exact ⟨ad, rfl, z⟩, .inl rfl⟩
  · obtain ⟨ad, rfl, z⟩ := H
    rcases z with ⟨_, z⟩ | ⟨b, rfl, z2, z3, z4⟩
    · exact absurd z hx
    · refine (sortI_ok b _ xs hx hl h z2).mono ?_
      rintro r h' ⟨rfl, rfl⟩
      have hll : (sortI xs).length = xs.length := List.length_mergeSort _
      exact ⟨rfl, ⟨_, by rw [hll], .inr ⟨b, rfl, by rw [f_set, if_pos rfl], z3, z4⟩⟩, .inr ⟨b, _, _, _, rfl, z3, z4, rfl⟩⟩
def J11b (b7 : Value → List Value) (kv : Value) (K : List Int) (h0 : Heap) (n : Nat) (σ : St) : Prop := ∃ (j : Nat) (kq : Value), n = K.length - j ∧ j ≤ K.length ∧ Ext h0 σ.m.h ∧ OwA 3 intC h0 σ.m.h kq (K.take j) ∧
  σ.t.get 2 = some (.pointer (some ⟨2, 0, some 0⟩)) ∧ σ.t.get 7 = some (.pointer (some ⟨7, 0, some 0⟩)) ∧ σ.t.get 50 = some kv ∧ σ.t.get 51 = some (.int .i64 (K.length : Nat)) ∧ σ.t.get 52 = some (.int .i64 (j : Nat)) ∧
  σ.m.x.look 2 = some (33, zVen) ∧ σ.m.x.look 7 = some (33, b7 kq)
def NormP (v : VenR) (h : Heap) (r : Value) (h' : Heap) : Prop := Ext h h' ∧
  ((killsIn v = false ∧ r = .tuple #[.agg ⟨zVen⟩, .bool false]) ∨
   (killsIn v = true ∧ ∃ ys, ys.Perm v.seats ∧ SortedS ys ∧
     ((mayV (outV v ys) = true ∧ ∃ co, VenC h' (outV v ys) co ∧ r = .tuple #[.agg ⟨co⟩, .bool true]) ∨
      (mayV (outV v ys) = false ∧ r = .tuple #[.agg ⟨zVen⟩, .bool false]))))
theorem norm_ok (v : VenR) (cs : List Value) (hv : venSmall v) (hk : v.kills.length ≤ 1000000) (h : Heap) (H : VenC h v cs)
    (hno : ∀ ys, ys.Perm v.seats → SortedS ys → NoAdj (sortI ((killedL v).map (fun s => findA (atS s) ys)))) :
    ACalls PP 28 [.agg ⟨cs⟩] h (NormP v h) := by
  refine acalls_of_vc mix fn28 bodyEq28 rfl (by show 1 ≤ 78; decide) ok28 ?_
  simp only [body28, Tryz.f28]
  obtain ⟨s, k, p, rfl, h1, h2, h3⟩ := H
  obtain ⟨ad1, c1, e1⟩ := h1.shape
  obtain ⟨ad2, c2, e2⟩ := h2.shape
  obtain ⟨ad3, c3, e3⟩ := h3.shape
  subst e1; subst e2; subst e3
  obtain ⟨m, hm⟩ : ∃ m, m = v.kills.length := ⟨_, rfl⟩
  have hm' := hm
  rw [← hm] at h2 hk ⊢
  simp -implicitDefEqProofs
  refine vc_loop (J11a _ v (.slice ad2 m c2) h) _ ⟨0, .slice none 0 0, rfl, by omega, Ext.rfl' h, by simpa using OwA.nil, fun j k hj => by omega, by simp, by simp, by simp, by simp, by simp [hm], by simp, by simp; rfl, by simp [zVen]⟩ ?_
  rintro n ⟨T, ⟨x, H⟩⟩ ⟨i, kv, rfl, hi, hE, hO, hin, g1, g2, g4, g11, g12, g13, x1, x2⟩
  simp at hE hO g1 g2 g4 g11 g12 g13 x1 x2
  rw [← hm] at g12 hi
  simp -implicitDefEqProofs [g1, g2, g4, g11, g12, g13, x1, x2]
  refine condQ_of (fun hc => ?_) (fun hc => ?_) <;> simp only [decide_eq_true_eq, decide_eq_false_iff_not] at hc
  · have him : i < m := by omega
    have hti : v.kills[i]? = some v.kills[i] := List.getElem?_eq_getElem (by omega)
    obtain ⟨_, b1, o1, wb1, cs1, r1, rfl, hb1, hd1, hl1, _⟩ := (h2.ext hE).at 1 intC_len hti
    obtain ⟨t, ht⟩ : ∃ t, t = v.kills[i] := ⟨_, rfl⟩
    rw [← ht] at hd1 hti
    rw [Nat.mul_one] at hd1 hl1
    have bad : (t < 0 ∨ (v.seats.length : Int) ≤ t) → killsIn v = false := by
      intro hb
      unfold killsIn
      rw [Bool.eq_false_iff]
      intro q
      rw [List.all_eq_true] at q
      have := q t (List.mem_of_getElem? hti)
      simp at this
      omega
    by_cases q1 : t < 0
    · simp -implicitDefEqProofs [g1, g2, g4, g11, g12, g13, x1, x2, him, hb1, hd1, hl1, intC, q1]
      exact ⟨hE, .inl ⟨bad (.inl q1), by simp [zVen]⟩⟩
    · by_cases q2 : (v.seats.length : Int) ≤ t
      · simp -implicitDefEqProofs [g1, g2, g4, g11, g12, g13, x1, x2, him, hb1, hd1, hl1, intC, q1, q2]
        exact ⟨hE, .inl ⟨bad (.inr q2), by simp [zVen]⟩⟩
      · obtain ⟨a, ha⟩ : ∃ a : Nat, t = a := ⟨t.toNat, by omega⟩
        subst ha
        have hal : a < v.seats.length := by omega
        have hsa : v.seats[a]? = some v.seats[a] := List.getElem?_eq_getElem hal
        obtain ⟨_, b2, o2, wb2, cs2, r2, rfl, hb2, hd2, hl2, hbn2⟩ := (h1.ext hE).at 4 seatC_len hsa
        obtain ⟨u, hu⟩ : ∃ u, u = v.seats[a] := ⟨_, rfl⟩
        rw [← hu] at hd2 hsa
        have w1 : IntKind.wrap .i64 ((i : Int) + 1) = ((i + 1 : Nat) : Int) := by rw [i64wrap (by omega)]; omega
        have hkt : (killedL v).take (i + 1) = (killedL v).take i ++ [u] := by
          rw [List.take_add_one]
          congr 1
          simp [killedL, hti, hsa]
        have hkl : ((killedL v).take i).length = i := by rw [List.length_take]; simp [killedL]; omega
        have hin' : ∀ j k, j < i + 1 → v.kills[j]? = some k → 0 ≤ k ∧ k < v.seats.length := by
          intro j k hj hjk
          rcases Nat.lt_or_ge j i with z | z
          · exact hin j k z hjk
          · have : j = i := by omega
            subst this
            rw [hti] at hjk
            obtain rfl := Option.some.inj hjk
            omega
        have hr4 : List.range 4 = [0, 1, 2, 3] := rfl
        obtain ⟨ad, ekv, hz⟩ := hO
        rw [hkl] at ekv
        subst ekv
        rcases hz with ⟨rfl, hz⟩ | ⟨b, rfl, hbb, hb3, hb4⟩
        · have hi0 : i = 0 := by have := congrArg List.length hz; rw [hkl] at this; simpa using this
          have hsl : Value.slice none i i = Value.slice none 0 0 := by rw [hi0]
          simp only [hsl] at g4 ⊢
          simp -implicitDefEqProofs [g1, g2, g4, g11, g12, g13, x1, x2, him, hb1, hd1, hl1, intC, q1, q2, hal, hb2, hd2, hl2, seatC, opAppend, srcCells, opBuildSlice, maxA, hr4, w1]
          refine ⟨m - (i + 1), by omega, i + 1, _, by rw [← hm], by omega, (hE.newOf _).newOf _, ⟨some ⟨H.n + 1, 0, none⟩, ?_, .inr ⟨H.n + 1, rfl, ?_, ?_, by simp⟩⟩, hin', by simp, by simp, by simp; rfl, by simp [g11], by simp [hm], by simp, by simp, by simp⟩
          · rw [hkt, List.length_append, hkl, hi0]; rfl
          · simp [hkt, hz, seatC]
          · have := hE.n; omega
        · have hbn : ¬ b = H.n := by omega
          have hmx : (i + 1) * 32 ≤ 140737488355328 := by omega
          obtain ⟨F, hF⟩ : ∃ F, F = ((killedL v).take i).flatMap seatC := ⟨_, rfl⟩
          have hFl : F.length = i * 4 := by rw [hF, flatA_len 4 seatC_len, hkl]
          rw [← hF] at hbb
          simp -implicitDefEqProofs [g1, g2, g4, g11, g12, g13, x1, x2, him, hb1, hd1, hl1, intC, q1, q2, hal, hb2, hd2, hl2, seatC, opAppend, srcCells, opBuildSlice, maxA, hr4, w1, hbn, hbb, hFl, hmx]
          refine ⟨m - (i + 1), by omega, i + 1, _, by rw [← hm], by omega, ((hE.newOf _).setOf hb3 _).newOf _, ⟨some ⟨H.n + 1, 0, none⟩, ?_, .inr ⟨H.n + 1, rfl, ?_, ?_, by simp⟩⟩, hin', by simp, by simp, by simp; rfl, by simp [g11], by simp [hm], by simp, by simp, by simp⟩
          · rw [hkt, List.length_append, hkl]; rfl
          · have e8 : List.take (i * 4) (((killedL v).take i).flatMap seatC) = ((killedL v).take i).flatMap seatC := by rw [← hF]; exact List.take_of_length_le (by omega)
            simp [hkt, seatC, hF, e8]
          · have := hE.n; omega
  · have hie : i = m := by omega
    subst hie
    have hki : killsIn v = true := by
      unfold killsIn
      rw [List.all_eq_true]
      intro k hk'
      obtain ⟨j, hj, rfl⟩ := List.mem_iff_getElem.1 hk'
      have := hin j _ (by omega) (List.getElem?_eq_getElem hj)
      simp; omega
    have hkl : (killedL v).take i = killedL v := List.take_of_length_le (by simp [killedL]; omega)
    rw [hkl] at hO
    have hkll : (killedL v).length = i := by simp [killedL]; omega
    have hkv : ∃ ad, kv = .slice ad i i := by obtain ⟨ad, e, _⟩ := hO; exact ⟨ad, by rw [e, hkll]⟩
    obtain ⟨adK, eK⟩ := hkv
    subst eK
    simp -implicitDefEqProofs [g1, g2, g4, g11, g12, g13, x1, x2]
    refine (clone_ok _ v.seats hv.1 H (h1.ext hE)).mono ?_
    rintro w1 hA ⟨EA, OA⟩
    simp -implicitDefEqProofs [callP]
    intro _
    have hwA : ∃ ad, w1 = .slice ad v.seats.length v.seats.length := by obtain ⟨ad, e, _⟩ := OA; exact ⟨ad, e⟩
    refine (cloneP_ok _ v.poles hv.2.2 hA ((h3.ext hE).ext EA)).mono ?_
    rintro w2 hB ⟨EB, OB⟩
    have OA2 := OA.ext EB
    obtain ⟨adA, eA⟩ := hwA
    subst eA
    have hwB : ∃ ad, w2 = .slice ad v.poles.length v.poles.length := by obtain ⟨ad, e, _⟩ := OB; exact ⟨ad, e⟩
    obtain ⟨adB, eB⟩ := hwB
    subst eB
    simp -implicitDefEqProofs [callP]
    intro _
    refine (sortF_any _ v.seats H hB hv.1 OA2).mono ?_
    rintro r hC ⟨rfl, ys, hperm, hsort, OS, hch⟩
    have hys : ys.length = v.seats.length := hperm.length_eq
    have hbA : ∀ b n c, Value.slice adA v.seats.length v.seats.length = .slice (some ⟨b, 0, none⟩) n c → b < hA.n := by
      intro b n c e
      obtain ⟨ad, e2, z⟩ := OA
      rw [e2] at e
      simp only [Value.slice.injEq] at e
      rcases z with ⟨z, _⟩ | ⟨b', z, _, _, z4⟩
      · rw [z] at e; simp at e
      · rw [z] at e; simp at e; rw [← e.1]; exact z4
    have EHC : Ext H hC := by
      rcases hch with rfl | ⟨b, n, c, cs, e, hb1, hb2, rfl⟩
      · exact EA.trans EB
      · exact (EA.trans EB).setOf hb1 _
    have OB2 : OwA 93 poleC hA hC (.slice adB v.poles.length v.poles.length) v.poles := by
      rcases hch with rfl | ⟨b, n, c, cs, e, hb1, hb2, rfl⟩
      · exact OB
      · exact OwA.setNe OB cs (hbA b n c e)
    have OK := hO.ext EHC
    obtain ⟨K, hK⟩ : ∃ K, K = (killedL v).map (fun s => findA (atS s) ys) := ⟨_, rfl⟩
    have hKl : K.length = i := by rw [hK, List.length_map, hkll]
    have hnoA := hno ys hperm hsort
    rw [← hK] at hnoA
    simp -implicitDefEqProofs [callQ]
    intro _
    refine vc_loop (J11b (fun kq => [.slice adA v.seats.length v.seats.length, .int .i64 v.gap, .int .i64 v.radius, kq, .slice adB v.poles.length v.poles.length]) (.slice adK i i) K hC) _ ⟨0, .slice none 0 0, rfl, by omega, Ext.rfl' hC, by simpa using OwA.nil, by simp, by simp, by simp, by simp [hKl], by simp, by simp, by simp⟩ ?_
    clear g1 g2 g4 g11 g12 g13 x1 x2 hc
    rintro n ⟨T, ⟨x, D⟩⟩ ⟨j, kq, rfl, hj, ED, OQ, g2, g7, g50, g51, g52, x2, x7⟩
    simp at ED OQ g2 g7 g50 g51 g52 x2 x7
    rw [hKl] at g51 hj
    simp -implicitDefEqProofs [g2, g7, g50, g51, g52, x2, x7]
    refine condQ_of (fun hc => ?_) (fun hc => ?_) <;> simp only [decide_eq_true_eq, decide_eq_false_iff_not] at hc
    · have hji : j < i := by omega
      have hua : (killedL v)[j]? = some (killedL v)[j] := List.getElem?_eq_getElem (by omega)
      have OKD := OK.sl.ext ED
      obtain ⟨_, b1, o1, wb1, cs1, r1, e1, hb1, hd1, hl1, hbn1⟩ := (hkll ▸ OKD : SlA 57 seatC D (.slice adK i i) (killedL v)).at 4 seatC_len hua
      subst e1
      obtain ⟨u, hu⟩ : ∃ u, u = (killedL v)[j] := ⟨_, rfl⟩
      rw [← hu] at hd1 hua
      have hbD : ¬ b1 = D.n := by omega
      have w1 : IntKind.wrap .i64 ((j : Int) + 1) = ((j + 1 : Nat) : Int) := by rw [i64wrap (by omega)]; omega
      have hKj : K[j]? = some (findA (atS u) ys) := by rw [hK, List.getElem?_map, hua]; rfl
      have hKt : K.take (j + 1) = K.take j ++ [findA (atS u) ys] := by rw [List.take_add_one, hKj]; rfl
      have hKjl : (K.take j).length = j := by rw [List.length_take]; omega
      simp -implicitDefEqProofs [g2, g7, g50, g51, g52, x2, x7, hji, hb1, hd1, hl1, seatC]
      have ED2 : Ext D ((D.new (Blk.row true 57 [.int .i64 0, .int .i64 0, .int .i64 0, .int .i64 0])).set D.n (Blk.row true 57 [.int .i64 u.row, .int .i64 u.x, .int .i64 u.y, .int .i64 u.kind])) := (Ext.new D _).setOf (Nat.le_refl _) _
      have hsD : SeatS ((D.new (Blk.row true 57 [.int .i64 0, .int .i64 0, .int .i64 0, .int .i64 0])).set D.n (Blk.row true 57 [.int .i64 u.row, .int .i64 u.x, .int .i64 u.y, .int .i64 u.kind])) (.slice adA v.seats.length v.seats.length) ys := (OS.sl.ext ED).ext ED2
      refine (indexF_ok _ ys u D.n true (by have := hv.1; omega) _ hsD (by simp [seatC])).mono ?_
      rintro r h' ⟨rfl, rfl⟩
      obtain ⟨q, hq⟩ : ∃ q, q = findA (atS u) ys := ⟨_, rfl⟩
      rw [← hq] at hKt ⊢
      have hr1 : List.range 1 = [0] := rfl
      obtain ⟨ad, ekq, hz⟩ := OQ
      rw [hKjl] at ekq
      subst ekq
      have hGn : ((D.new (Blk.row true 57 [.int .i64 0, .int .i64 0, .int .i64 0, .int .i64 0])).set D.n (Blk.row true 57 [.int .i64 u.row, .int .i64 u.x, .int .i64 u.y, .int .i64 u.kind])).n = D.n + 1 := rfl
      obtain ⟨G, hG⟩ : ∃ G, G = ((D.new (Blk.row true 57 [.int .i64 0, .int .i64 0, .int .i64 0, .int .i64 0])).set D.n (Blk.row true 57 [.int .i64 u.row, .int .i64 u.x, .int .i64 u.y, .int .i64 u.kind])) := ⟨_, rfl⟩
      rw [← hG] at ED2 hGn ⊢
      have EDG : Ext hC G := ED.trans ED2
      rcases hz with ⟨rfl, hz⟩ | ⟨b, rfl, hbb, hb3, hb4⟩
      · have hj0 : j = 0 := by have := congrArg List.length hz; rw [hKjl] at this; simpa using this
        have hsl : Value.slice none j j = Value.slice none 0 0 := by rw [hj0]
        simp only [hsl] at x7 ⊢
        simp -implicitDefEqProofs [callP]
        intro _
        simp -implicitDefEqProofs [opAppend, srcCells, opBuildSlice, maxA, hr1, g2, g7, g50, g51, g52, w1]
        refine ⟨i - (j + 1), by omega, j + 1, _, by rw [hKl], by omega, (EDG.newOf _).newOf _, ⟨some ⟨G.n + 1, 0, none⟩, ?_, .inr ⟨G.n + 1, rfl, ?_, ?_, by simp⟩⟩, by simp, by simp, by simp, by simp [hKl], by simp, by simp, by simp; rfl⟩
        · rw [hKt, List.length_append, hKjl, hj0]; rfl
        · simp [hKt, hz, intC]
        · have := EDG.n; omega
      · have hbn : ¬ b = G.n := by omega
        have hbG : G.f b = .row true 3 ((K.take j).flatMap intC) := by rw [ED2.f b hb4, hbb]
        have hmx : (j + 1) * 8 ≤ 140737488355328 := by omega
        obtain ⟨F, hF⟩ : ∃ F, F = (K.take j).flatMap intC := ⟨_, rfl⟩
        have hFl : F.length = j := by have := flatA_len 1 intC_len (K.take j); rw [← hF, hKjl] at this; omega
        rw [← hF] at hbG
        have e8 : F.take j = F := List.take_of_length_le (by omega)
        simp -implicitDefEqProofs [callP]
        intro _
        simp -implicitDefEqProofs [opAppend, srcCells, opBuildSlice, maxA, hr1, g2, g7, g50, g51, g52, w1, hbn, hbG, hFl, hmx, e8]
        refine ⟨i - (j + 1), by omega, j + 1, _, by rw [hKl], by omega, ((EDG.newOf _).setOf hb3 _).newOf _, ⟨some ⟨G.n + 1, 0, none⟩, ?_, .inr ⟨G.n + 1, rfl, ?_, ?_, by simp⟩⟩, by simp, by simp, by simp, by simp [hKl], by simp, by simp, by simp; rfl⟩
        · rw [hKt, List.length_append, hKjl]; rfl
        · simp [hKt, intC, hF]
        · have := EDG.n; omega
    · have hji : j = i := by omega
      subst hji
      have hKt : K.take j = K := List.take_of_length_le (by omega)
      rw [hKt] at OQ
      have hkq : ∃ ad, kq = .slice ad j j := by obtain ⟨ad, e, _⟩ := OQ; exact ⟨ad, by rw [e, hKl]⟩
      obtain ⟨adQ, eQ⟩ := hkq
      subst eQ
      simp -implicitDefEqProofs [g2, g7, g50, g51, g52, x2, x7]
      refine (sortI_any _ K hC D (by omega) OQ).mono ?_
      rintro r hD ⟨rfl, OD, hch2⟩
      have ECD : Ext hC hD := by
        rcases hch2 with rfl | ⟨b, n, c, cs, e, hb1, hb2, rfl⟩
        · exact ED
        · exact ED.setOf hb1 _
      simp -implicitDefEqProofs [callQ]
      intro _
      refine (compactN_ok _ (sortI K) (by have : (sortI K).length = K.length := List.length_mergeSort _; omega) hnoA hD OD.sl).mono ?_
      rintro r hE' ⟨rfl, rfl⟩
      simp -implicitDefEqProofs [callQ]
      intro _
      have hVC : VenC hE' (outV v ys) [.slice adA v.seats.length v.seats.length, .int .i64 v.gap, .int .i64 v.radius, .slice adQ j j, .slice adB v.poles.length v.poles.length] :=
        ⟨_, _, _, rfl, OS.sl.ext ECD, by unfold outV; rw [← hK]; exact OD.sl, OB2.sl.ext ECD⟩
      have hsm : venSmall (outV v ys) := ⟨by show ys.length ≤ _; have := hv.1; omega, by
        show (sortI _).length ≤ _
        have : (sortI ((killedL v).map (fun s => findA (atS s) ys))).length = _ := List.length_mergeSort _
        rw [this, ← hK]; omega, hv.2.2⟩
      refine (may_ok (outV v ys) _ hsm hE' hVC).mono ?_
      rintro r hF ⟨rfl, rfl⟩
      have EF : Ext h hF := (hE.trans EHC).trans ECD
      simp -implicitDefEqProofs [callQ]
      intro _
      by_cases hmay : mayV (outV v ys) = true
      · simp -implicitDefEqProofs [hmay, g2, g7, x2, x7]
        exact ⟨EF, .inr ⟨hki, ys, hperm, hsort, .inl ⟨hmay, _, hVC, rfl⟩⟩⟩
      · have hmay' : mayV (outV v ys) = false := by simpa using hmay
        simp -implicitDefEqProofs [hmay', g2, g7, x2, x7]
        exact ⟨EF, .inr ⟨hki, ys, hperm, hsort, .inr ⟨hmay', by simp [zVen]⟩⟩⟩
end Go.Proofs.Yph.V
namespace Go.Proofs.Yph.V
open Go Go.Am
set_option maxRecDepth 20000
set_option maxHeartbeats 2000000
/-- a slice of one's own, with its block -/
def OwO {α : Type} (e : TypeId) (enc : α → List Value) (h0 h : Heap) (o : Option Nat) (xs : List α) (v : Value) : Prop :=
  v = .slice (o.map fun b => ⟨b, 0, none⟩) xs.length xs.length ∧ (match o with
    | none => xs = []
    | some b => h.f b = .row true e (xs.flatMap enc) ∧ h0.n ≤ b ∧ b < h.n)
theorem OwO.own {α : Type} {e : TypeId} {enc : α → List Value} {h0 h : Heap} {o : Option Nat} {xs : List α} {v : Value} (H : OwO e enc h0 h o xs v) : OwA e enc h0 h v xs := by
  obtain ⟨rfl, z⟩ := H
  cases o with
  | none => exact ⟨none, rfl, .inl ⟨rfl, z⟩⟩
  | some b => exact ⟨_, rfl, .inr ⟨b, rfl, z.1, z.2.1, z.2.2⟩⟩
theorem OwO.ext {α : Type} {e : TypeId} {enc : α → List Value} {h0 h h' : Heap} {o : Option Nat} {xs : List α} {v : Value} (H : OwO e enc h0 h o xs v) (E : Ext h h') : OwO e enc h0 h' o xs v := by
  obtain ⟨rfl, z⟩ := H
  refine ⟨rfl, ?_⟩
  cases o with
  | none => exact z
  | some b => exact ⟨by rw [E.f b z.2.2]; exact z.1, z.2.1, Nat.lt_of_lt_of_le z.2.2 E.n⟩
theorem OwO.setNe {α : Type} {e : TypeId} {enc : α → List Value} {h0 h : Heap} {o : Option Nat} {xs : List α} {v : Value} (H : OwO e enc h0 h o xs v) {b : Nat} (c : Blk) (hb : o ≠ some b) : OwO e enc h0 (h.set b c) o xs v := by
  obtain ⟨rfl, z⟩ := H
  refine ⟨rfl, ?_⟩
  cases o with
  | none => exact z
  | some b' => exact ⟨by rw [f_set, if_neg (fun q => hb (by rw [q]))]; exact z.1, z.2.1, z.2.2⟩
theorem OwO.lt {α : Type} {e : TypeId} {enc : α → List Value} {h0 h : Heap} {o : Option Nat} {xs : List α} {v : Value} (H : OwO e enc h0 h o xs v) {m : Nat} (hm : h.n ≤ m) : o ≠ some m := by
  intro q; subst q; have := H.2.2.2; omega
theorem OwO.nil {α : Type} {e : TypeId} {enc : α → List Value} {h0 h : Heap} : OwO e enc h0 h none ([] : List α) (.slice none 0 0) := ⟨rfl, rfl⟩
theorem OwO.keep {α : Type} {e : TypeId} {enc : α → List Value} {h0 h : Heap} {o : Option Nat} {xs : List α} {v : Value} (H : OwO e enc h0 h o xs v) {b : Nat} (c0 c1 : Blk) (hb : o ≠ some b) : OwO e enc h0 (((h.new c0).set b .dead).new c1) o xs v :=
  ((H.ext (Ext.new _ _)).setNe _ hb).ext (Ext.new _ _)
theorem OwO.push {α : Type} {e : TypeId} {enc : α → List Value} {h0 h : Heap} {b : Nat} {xs : List α} {v : Value} (H : OwO e enc h0 h (some b) xs v) (c0 : Blk) (x : α) {cells : List Value} (hc : cells = (xs ++ [x]).flatMap enc) :
    OwO e enc h0 (((h.new c0).set b .dead).new (.row true e cells)) (some (h.n + 1)) (xs ++ [x]) (.slice (some ⟨h.n + 1, 0, none⟩) (xs.length + 1) (xs.length + 1)) := by
  obtain ⟨_, _, h1, h2⟩ := H
  refine ⟨by simp, ?_, ?_, ?_⟩
  · simp [hc]
  · omega
  · simp
theorem OwO.push0 {α : Type} {e : TypeId} {enc : α → List Value} {h0 h : Heap} (hn : h0.n ≤ h.n) (c0 : Blk) (x : α) {cells : List Value} (hc : cells = enc x) :
    OwO e enc h0 ((h.new c0).new (.row true e cells)) (some (h.n + 1)) [x] (.slice (some ⟨h.n + 1, 0, none⟩) 1 1) := by
  refine ⟨by simp, ?_, ?_, ?_⟩
  · simp [hc]
  · omega
  · simp
theorem ext_push {h0 h : Heap} (E : Ext h0 h) {b : Nat} (hb : h0.n ≤ b) (c0 c1 c2 : Blk) : Ext h0 (((h.new c0).set b c2).new c1) := ((E.newOf _).setOf hb _).newOf _
/-- two blocks, if there are two, are not one -/
def Ap (a b : Option Nat) : Prop := ∀ n, a = some n → b ≠ some n
/-- a venue of one's own -/
def VenO (h0 h : Heap) (v : VenR) (a b c : Option Nat) (cs : List Value) : Prop := ∃ s k p, cs = [s, .int .i64 v.gap, .int .i64 v.radius, k, p] ∧ OwO 57 seatC h0 h a v.seats s ∧ OwO 3 intC h0 h b v.kills k ∧ OwO 93 poleC h0 h c v.poles p ∧ Ap a b ∧ Ap a c ∧ Ap b c
theorem VenO.ven {h0 h : Heap} {v : VenR} {a b c : Option Nat} {cs : List Value} (H : VenO h0 h v a b c cs) : VenC h v cs := by
  obtain ⟨s, k, p, rfl, h1, h2, h3, _⟩ := H
  exact ⟨s, k, p, rfl, h1.own.sl, h2.own.sl, h3.own.sl⟩
/-- what a made venue is -/
structure Made (i : Nat) (v : VenR) (row x : Int) : Prop where
  gap : v.gap = 10
  radius : 0 ≤ v.radius ∧ v.radius ≤ 24
  len : v.seats.length = i + 1
  klen : v.kills.length ≤ i
  plen : v.poles.length ≤ i
  last : ∃ s, v.seats[i]? = some s ∧ s.row = row ∧ s.x = x
  rowB : 0 ≤ row ∧ row ≤ i
  xB : 0 ≤ x ∧ x ≤ 15 * i
  seat : ∀ s ∈ v.seats, 0 ≤ s.row ∧ s.row ≤ i ∧ 0 ≤ s.x ∧ s.x ≤ 15 * i ∧ s.y = 10 * s.row ∧ 0 ≤ s.kind ∧ s.kind ≤ 2
  up : ∀ j s t, v.seats[j]? = some s → v.seats[j + 1]? = some t → lessS s t = true
  kill : ∀ a ∈ v.kills, 1 ≤ a ∧ a ≤ i
  kup : ∀ j a b, v.kills[j]? = some a → v.kills[j + 1]? = some b → a < b
  pole : ∀ p ∈ v.poles, 0 ≤ p.x ∧ p.x ≤ 15 * i ∧ 0 ≤ p.y ∧ p.y ≤ 10 * i ∧ 1 ≤ p.r ∧ p.r ≤ 12
def MkS (lv : Value) (most : Int) (h : Heap) (i : Nat) (v : VenR) (row x : Int) (σ : St) : Prop := ∃ (a b c : Option Nat) (cs : List Value), Ext h σ.m.h ∧ VenO h σ.m.h v a b c cs ∧ a ≠ none ∧
  σ.t.get 0 = some lv ∧ σ.t.get 1 = some (.int .i64 most) ∧ σ.t.get 4 = some (.pointer (some ⟨4, 0, some 0⟩)) ∧ σ.t.get 5 = some (.pointer (some ⟨5, 0, some 0⟩)) ∧ σ.t.get 6 = some (.int .i64 row) ∧ σ.t.get 7 = some (.int .i64 x) ∧ σ.t.get 8 = some (.int .i64 (i : Nat)) ∧
  σ.m.x.look 4 = some (33, zVen) ∧ σ.m.x.look 5 = some (33, cs)
def J20 (lv : Value) (most : Int) (h : Heap) (n : Nat) (σ : St) : Prop := ∃ (i : Nat) (v : VenR) (row x : Int), n = (most - i).toNat ∧ (i : Int) < most ∧ Made i v row x ∧ MkS lv most h i v row x σ
def stepR (row x row' x' : Int) : Prop := (row' = row ∧ x < x' ∧ x' ≤ x + 15) ∨ (row' = row + 1 ∧ x' = 0)
theorem up_snoc {α : Type} {r : α → α → Prop} {l : List α} {z : α} (h : ∀ j s t, l[j]? = some s → l[j + 1]? = some t → r s t) (hz : ∀ s, l.getLast? = some s → r s z) : ∀ j s t, (l ++ [z])[j]? = some s → (l ++ [z])[j + 1]? = some t → r s t := by
  intro j s t h1 h2
  rcases Nat.lt_trichotomy (j + 1) l.length with q | q | q
  · rw [List.getElem?_append_left (by omega)] at h1 h2; exact h j s t h1 h2
  · rw [List.getElem?_append_left (by omega)] at h1
    rw [List.getElem?_append_right (by omega), q] at h2
    simp at h2
    subst h2
    refine hz s ?_
    rw [List.getLast?_eq_getElem?, ← q]; exact h1
  · rw [List.getElem?_eq_none (by simp; omega)] at h2; cases h2
theorem made_step {i : Nat} {v : VenR} {row x : Int} (M : Made i v row x) {row' x' : Int} (hst : stepR row x row' x') {k : Int} (hk0 : 0 ≤ k) (hk2 : k ≤ 2) {ks : List Int} {ps : List PoleR} {r : Int}
    (hks : ks = v.kills ∨ ks = v.kills ++ [((i + 1 : Nat) : Int)]) (hps : ps = v.poles ∨ ∃ r, 1 ≤ r ∧ r ≤ 12 ∧ ps = v.poles ++ [⟨x', 10 * row', r⟩]) (hr : r = v.radius ∨ 0 ≤ r ∧ r ≤ 24) :
    Made (i + 1) ⟨v.seats ++ [⟨row', x', 10 * row', k⟩], v.gap, r, ks, ps⟩ row' x' := by
  have hrB := M.rowB
  have hxB := M.xB
  have hrow1 : 0 ≤ row' ∧ row' ≤ i + 1 := by rcases hst with h | h <;> omega
  have hx1 : 0 ≤ x' ∧ x' ≤ 15 * (i + 1) := by rcases hst with h | h <;> omega
  refine ⟨M.gap, ?_, by simp [M.len], ?_, ?_, ⟨⟨row', x', 10 * row', k⟩, by rw [List.getElem?_append_right (by simp [M.len]), M.len]; simp, rfl, rfl⟩, by omega, by omega, ?_, ?_, ?_, ?_, ?_⟩
  · rcases hr with rfl | h
    · exact M.radius
    · exact h
  · have := M.klen
    rcases hks with rfl | rfl <;> simp <;> omega
  · have := M.plen
    rcases hps with rfl | ⟨_, _, _, rfl⟩ <;> simp <;> omega
  · intro s hs
    rcases List.mem_append.1 hs with h | h
    · obtain ⟨z1, z2, z3, z4, z5, z6⟩ := M.seat s h; exact ⟨z1, by omega, z3, by omega, z5, z6⟩
    · obtain rfl := List.mem_singleton.1 h
      exact ⟨hrow1.1, by simp only; omega, hx1.1, by simp only; omega, rfl, hk0, hk2⟩
  · refine up_snoc M.up (fun s hs => ?_)
    obtain ⟨s0, e0, e1, e2⟩ := M.last
    rw [List.getLast?_eq_getElem?, M.len, Nat.add_sub_cancel, e0] at hs
    obtain rfl := Option.some.inj hs
    rw [lessS_iff]
    simp only
    rcases hst with h | h <;> omega
  · intro a ha
    rcases hks with rfl | rfl
    · have := M.kill a ha; omega
    · rcases List.mem_append.1 ha with h | h
      · have := M.kill a h; omega
      · obtain rfl := List.mem_singleton.1 h
        omega
  · rcases hks with rfl | rfl
    · exact M.kup
    · refine up_snoc (r := fun a b => a < b) M.kup (fun s hs => ?_)
      have := M.kill s (List.mem_of_getLast? hs)
      omega
  · intro p hp
    rcases hps with rfl | ⟨r', h1, h2, rfl⟩
    · have := M.pole p hp; omega
    · rcases List.mem_append.1 hp with h | h
      · have := M.pole p h; omega
      · obtain rfl := List.mem_singleton.1 h
        simp only; omega
def M1 (lv : Value) (most : Int) (h : Heap) (i : Nat) (v : VenR) (row x u : Int) (σ : St) : Prop := ∃ row' x', stepR row x row' x' ∧ MkS lv most h i v row' x' σ ∧ σ.t.get 9 = some (.int .u64 u)
def M2 (lv : Value) (most : Int) (h : Heap) (i : Nat) (v : VenR) (row x u : Int) (σ : St) : Prop := ∃ k, 0 ≤ k ∧ k ≤ 2 ∧ MkS lv most h i v row x σ ∧ σ.t.get 9 = some (.int .u64 u) ∧ σ.t.get 10 = some (.pointer (some ⟨10, 0, some 0⟩)) ∧ σ.m.x.look 10 = some (57, seatC ⟨row, x, 10 * row, k⟩)
def M3 (lv : Value) (most : Int) (h : Heap) (i : Nat) (v : VenR) (row x u : Int) (σ : St) : Prop := ∃ ks, (ks = v.kills ∨ ks = v.kills ++ [((i + 1 : Nat) : Int)]) ∧ MkS lv most h i { v with kills := ks } row x σ ∧ σ.t.get 9 = some (.int .u64 u)
def M4 (lv : Value) (most : Int) (h : Heap) (i : Nat) (v : VenR) (row x u : Int) (σ : St) : Prop := ∃ ps, (ps = v.poles ∨ ∃ r, 1 ≤ r ∧ r ≤ 12 ∧ ps = v.poles ++ [⟨x, 10 * row, r⟩]) ∧ MkS lv most h i { v with poles := ps } row x σ ∧ σ.t.get 9 = some (.int .u64 u)
def M5 (lv : Value) (most : Int) (h : Heap) (i : Nat) (v : VenR) (row x : Int) (σ : St) : Prop := ∃ r, (r = v.radius ∨ 0 ≤ r ∧ r ≤ 24) ∧ MkS lv most h i { v with radius := r } row x σ
def MakeP (most : Int) (h : Heap) (r : Value) (h' : Heap) : Prop := Ext h h' ∧ ∃ (i : Nat) (v : VenR) (row x : Int) (a b c : Option Nat) (cs : List Value), (i : Int) < most ∧ Made i v row x ∧ a ≠ none ∧ VenO h h' v a b c cs ∧ r = .agg ⟨cs⟩
theorem make_ok (lv : Value) (l : List Int) (most : Int) (hm : 1 ≤ most ∧ most ≤ 100) (hl : l.length ≤ 4611686018427387904) (h : Heap) (hs : IntS h lv l) :
    ACalls PP 19 [lv, .int .i64 most] h (MakeP most h) := by
  refine acalls_of_vc mix fn19 bodyEq19 rfl (by show 2 ≤ 106; decide) ok19 ?_
  simp only [body19, Tryz.f19]
  have hr4 : List.range 4 = [0, 1, 2, 3] := rfl
  obtain ⟨ad, cap, rfl⟩ := hs.shape
  simp -implicitDefEqProofs [opBuildSlice, hr4]
  refine vc_loop (J20 (.slice ad l.length cap) most h) _ ⟨0, ⟨[⟨0, 0, 0, 0⟩], 10, 0, [], []⟩, 0, 0, rfl, by omega, ?_, some h.n, none, none, _, Ext.new _ _, ⟨_, _, _, rfl, ⟨rfl, ?_⟩, OwO.nil, OwO.nil, ?_⟩, by simp, by simp, by simp, by simp, by simp, by simp, by simp, by simp, by simp [zVen], by simp⟩ ?_
  · exact ⟨rfl, ⟨by decide, by decide⟩, rfl, by simp, by simp, ⟨_, rfl, rfl, rfl⟩, by simp, by simp, by simp, fun j s t _ h2 => by simp at h2, by simp, fun j a b h1 => by simp at h1, by simp⟩
  · simp [seatC]
  · refine ⟨?_, ?_, ?_⟩ <;> (intro n; simp)
  rintro m ⟨T, ⟨x, H⟩⟩ ⟨i, v, row, x', rfl, him, hM, a, b, c, cs, hE, hO, ha, g0, g1, g4, g5, g6, g7, g8, x4, x5⟩
  simp at hE hO g0 g1 g4 g5 g6 g7 g8 x4 x5
  obtain ⟨bs, rfl⟩ : ∃ bs, a = some bs := by cases a with | none => exact absurd rfl ha | some b => exact ⟨b, rfl⟩
  have hO' := hO
  obtain ⟨sv, kv, pv, rfl, ⟨rfl, o1⟩, ⟨rfl, o2⟩, ⟨rfl, o3⟩, ap⟩ := hO
  have hlen := hM.len
  by_cases q1 : i < l.length
  rotate_left
  · simp -implicitDefEqProofs [g0, g1, g4, g5, g6, g7, g8, x4, x5, q1]
    exact ⟨hE, i, v, row, x', _, _, _, _, him, hM, ha, hO', rfl⟩
  by_cases q2 : (v.seats.length : Int) < most
  rotate_left
  · simp -implicitDefEqProofs [g0, g1, g4, g5, g6, g7, g8, x4, x5, q1, q2]
    exact ⟨hE, i, v, row, x', _, _, _, _, him, hM, ha, hO', rfl⟩
  have hti : l[i]? = some l[i] := List.getElem?_eq_getElem (by omega)
  obtain ⟨_, b1, o1', wb1, cs1, r1, rfl, hb1, hd1, hl1, _⟩ := (hs.ext hE).at 1 intC_len hti
  obtain ⟨t, ht⟩ : ∃ t, t = l[i] := ⟨_, rfl⟩
  rw [← ht] at hd1 hti
  rw [Nat.mul_one] at hd1 hl1
  obtain ⟨u, hu⟩ : ∃ u, u = t % 18446744073709551616 := ⟨_, rfl⟩
  have e1 : IntKind.wrap .u64 t = u := by rw [u64wrap_mod, hu]
  have hu0 : 0 ≤ u ∧ u < 18446744073709551616 := by omega
  obtain ⟨ua, hua⟩ : ∃ z, z = u.tmod 7 := ⟨_, rfl⟩
  have e2 : IntKind.wrap .u64 ua = ua := u64wrap (by rw [hua, Int.tmod_eq_emod_of_nonneg hu0.1]; omega)
  have hrb := hM.rowB
  have hxb := hM.xB
  have e3 : IntKind.wrap .i64 (x' + 10) = x' + 10 := i64wrap (by omega)
  have e4 : IntKind.wrap .i64 (row + 1) = row + 1 := i64wrap (by omega)
  have e5 : IntKind.wrap .i64 (x' + 10 + 5) = x' + 10 + 5 := i64wrap (by omega)
  simp -implicitDefEqProofs [g0, g1, g4, g5, g6, g7, g8, x4, x5, q1, q2, hb1, hd1, hl1, intC, e1, e2, e3, ← hua]
  refine condQ_cutB (M1 (.slice (some ⟨b1, o1', none⟩) l.length cap) most h i v row x' u) ?_ ?_
  · refine condQ_of (fun hc => ?_) (fun hc => ?_)
    · simp -implicitDefEqProofs [e4]
      exact ⟨row + 1, 0, .inr ⟨rfl, rfl⟩, ⟨some bs, b, c, _, hE, hO', ha, by simp, by simp, by simp, by simp, by simp, by simp, by simp, by simp, by simp⟩, by simp⟩
    · simp -implicitDefEqProofs
      refine condQ_of (fun hc => ?_) (fun hc => ?_)
      · simp -implicitDefEqProofs [e5]
        exact ⟨row, x' + 10 + 5, .inl ⟨rfl, by omega, by omega⟩, ⟨some bs, b, c, _, hE, hO', ha, by simp, by simp, by simp, by simp, by simp, by simp, by simp, by simp, by simp⟩, by simp⟩
      · simp -implicitDefEqProofs
        exact ⟨row, x' + 10, .inl ⟨rfl, by omega, by omega⟩, ⟨some bs, b, c, _, hE, hO', ha, by simp, by simp, by simp, by simp, by simp, by simp, by simp, by simp, by simp⟩, by simp⟩
  clear g0 g1 g4 g5 g6 g7 g8 x4 x5 hE hO' o1 o2 o3 ap ha hs hb1
  rintro ⟨T1, ⟨X1, H1⟩⟩ ⟨row1, x1, hst, ⟨a, b, c, cs, hE, hO, ha, g0, g1, g4, g5, g6, g7, g8, x4, x5⟩, g9⟩
  simp at hE hO g0 g1 g4 g5 g6 g7 g8 x4 x5 g9
  obtain ⟨bs, rfl⟩ : ∃ bs, a = some bs := by cases a with | none => exact absurd rfl ha | some b => exact ⟨b, rfl⟩
  have hO' := hO
  obtain ⟨sv, kv, pv, rfl, ⟨rfl, o1⟩, ⟨rfl, o2⟩, ⟨rfl, o3⟩, ap⟩ := hO
  have hrow1 : 0 ≤ row1 ∧ row1 ≤ i + 1 := by rcases hst with h | h <;> omega
  have hx1 : 0 ≤ x1 ∧ x1 ≤ 15 * (i + 1) := by rcases hst with h | h <;> omega
  have f1 : IntKind.wrap .i64 (10 * row1) = 10 * row1 := i64wrap (by omega)
  obtain ⟨ub, hub⟩ : ∃ z, z = u.tdiv 7 := ⟨_, rfl⟩
  have hub0 : 0 ≤ ub ∧ ub < 18446744073709551616 := by rw [hub, Int.tdiv_eq_ediv_of_nonneg hu0.1]; omega
  have f2 : IntKind.wrap .u64 ub = ub := u64wrap (by omega)
  obtain ⟨uc, huc⟩ : ∃ z, z = ub.tmod 6 := ⟨_, rfl⟩
  have f3 : IntKind.wrap .u64 uc = uc := u64wrap (by rw [huc, Int.tmod_eq_emod_of_nonneg hub0.1]; omega)
  simp -implicitDefEqProofs [g0, g1, g4, g5, g6, g7, g8, g9, x4, x5, f1, ← hub, f2, ← huc, f3]
  refine condQ_cutB (M2 (.slice (some ⟨b1, o1', none⟩) l.length cap) most h i v row1 x1 u) ?_ ?_
  · by_cases k0 : uc = 0
    · simp -implicitDefEqProofs [k0]
      exact ⟨1, by decide, by decide, ⟨some bs, b, c, _, hE, hO', ha, by simp, by simp, by simp, by simp, by simp, by simp, by simp, by simp, by simp⟩, by simp, by simp, by simp [seatC]⟩
    · by_cases k1 : uc = 1
      · simp -implicitDefEqProofs [k1]
        exact ⟨2, by decide, by decide, ⟨some bs, b, c, _, hE, hO', ha, by simp, by simp, by simp, by simp, by simp, by simp, by simp, by simp, by simp⟩, by simp, by simp, by simp [seatC]⟩
      · by_cases k2 : uc = 2
        · simp -implicitDefEqProofs [k2]
          exact ⟨2, by decide, by decide, ⟨some bs, b, c, _, hE, hO', ha, by simp, by simp, by simp, by simp, by simp, by simp, by simp, by simp, by simp⟩, by simp, by simp, by simp [seatC]⟩
        · simp -implicitDefEqProofs [k0, k1, k2]
          exact ⟨0, by decide, by decide, ⟨some bs, b, c, _, hE, hO', ha, by simp, by simp, by simp, by simp, by simp, by simp, by simp, by simp, by simp⟩, by simp, by simp, by simp [seatC]⟩
  clear g0 g1 g4 g5 g6 g7 g8 g9 x4 x5 hE hO' o1 o2 o3 ap ha
  rintro ⟨T2, ⟨X2, H2⟩⟩ ⟨kd, hk0, hk2, ⟨a, b, c, cs, hE, hO, ha, g0, g1, g4, g5, g6, g7, g8, x4, x5⟩, g9, g10, x10⟩
  simp at hE hO g0 g1 g4 g5 g6 g7 g8 x4 x5 g9 g10 x10
  obtain ⟨bs, rfl⟩ : ∃ bs, a = some bs := by cases a with | none => exact absurd rfl ha | some b => exact ⟨b, rfl⟩
  have hO' := hO
  obtain ⟨sv, kv, pv, rfl, ⟨rfl, o1⟩, ⟨rfl, o2⟩, ⟨rfl, o3⟩, ap⟩ := hO
  obtain ⟨o11, o12, o13⟩ := o1
  have hbn : ¬ bs = H2.n := by omega
  obtain ⟨F, hF⟩ : ∃ F, F = v.seats.flatMap seatC := ⟨_, rfl⟩
  have hFl : F.length = v.seats.length * 4 := by rw [hF, flatA_len 4 seatC_len]
  rw [← hF] at o11
  have hmx : (v.seats.length + 1) * 32 ≤ 140737488355328 := by omega
  have e8 : F.take (v.seats.length * 4) = F := List.take_of_length_le (by omega)
  obtain ⟨uv, huv⟩ : ∃ z, z = u.tdiv 42 := ⟨_, rfl⟩
  have huv0 : 0 ≤ uv ∧ uv < 18446744073709551616 := by rw [huv, Int.tdiv_eq_ediv_of_nonneg hu0.1]; omega
  have p1 : IntKind.wrap .u64 uv = uv := u64wrap (by omega)
  obtain ⟨uw, huw⟩ : ∃ z, z = uv.tmod 9 := ⟨_, rfl⟩
  have p2 : IntKind.wrap .u64 uw = uw := u64wrap (by rw [huw, Int.tmod_eq_emod_of_nonneg huv0.1]; omega)
  simp -implicitDefEqProofs [g0, g1, g4, g5, g6, g7, g8, g9, g10, x4, x5, x10, seatC, opAppend, srcCells, opBuildSlice, maxA, hr4, hbn, o11, hFl, hmx, e8, ← huv, p1, ← huw, p2]
  obtain ⟨G, hG⟩ : ∃ G, G = ((H2.new (Blk.row true 57 [Value.int IntKind.i64 row1, Value.int IntKind.i64 x1, Value.int IntKind.i64 (10 * row1), Value.int IntKind.i64 kd])).set bs Blk.dead).new (Blk.row true 57 (F ++ [Value.int IntKind.i64 row1, Value.int IntKind.i64 x1, Value.int IntKind.i64 (10 * row1), Value.int IntKind.i64 kd])) := ⟨_, rfl⟩
  rw [← hG]
  obtain ⟨v1, hv1⟩ : ∃ v1 : VenR, v1 = { v with seats := v.seats ++ [⟨row1, x1, 10 * row1, kd⟩] } := ⟨_, rfl⟩
  have EG : Ext h G := by rw [hG]; exact ext_push hE o12 _ _ _
  have hOG : VenO h G v1 (some (H2.n + 1)) b c [.slice (some ⟨H2.n + 1, 0, none⟩) (v.seats.length + 1) (v.seats.length + 1), .int .i64 v.gap, .int .i64 v.radius, .slice (b.map fun b => ⟨b, 0, none⟩) v.kills.length v.kills.length, .slice (c.map fun b => ⟨b, 0, none⟩) v.poles.length v.poles.length] := by
    obtain ⟨p1, p2, p3⟩ := ap
    have k2 : OwO 3 intC h H2 b v.kills (.slice (b.map fun b => ⟨b, 0, none⟩) v.kills.length v.kills.length) := ⟨rfl, o2⟩
    have k3 : OwO 93 poleC h H2 c v.poles (.slice (c.map fun b => ⟨b, 0, none⟩) v.poles.length v.poles.length) := ⟨rfl, o3⟩
    have k1 : OwO 57 seatC h H2 (some bs) v.seats (.slice (some ⟨bs, 0, none⟩) v.seats.length v.seats.length) := ⟨rfl, by rw [← hF]; exact o11, o12, o13⟩
    subst hv1
    refine ⟨_, _, _, rfl, ?_, ?_, ?_, ?_, ?_, p3⟩
    · rw [hG]; exact k1.push _ _ (by simp [hF, seatC])
    · rw [hG]; exact k2.keep _ _ (p1 bs rfl)
    · rw [hG]; exact k3.keep _ _ (p2 bs rfl)
    · intro n hn; obtain rfl := Option.some.inj hn; exact k2.lt (by omega)
    · intro n hn; obtain rfl := Option.some.inj hn; exact k3.lt (by omega)
  have hl1v : v1.seats.length = i + 2 := by rw [hv1]; simp [hlen]
  have hk1v : v1.kills = v.kills := by rw [hv1]
  have hp1v : v1.poles = v.poles := by rw [hv1]
  have hg1v : v1.gap = v.gap := by rw [hv1]
  have hr1v : v1.radius = v.radius := by rw [hv1]
  have n1 : G.n = H2.n + 2 := by rw [hG]; rfl
  have hr1 : List.range 1 = [0] := rfl
  clear g0 g1 g4 g5 g6 g7 g8 g9 g10 x4 x5 x10 hE hO'
  refine condQ_cut (M3 (.slice (some ⟨b1, o1', none⟩) l.length cap) most h i v1 row1 x1 u) ?_ ?_
  · by_cases k0 : uw = 0
    · have r1 : IntKind.wrap .i64 (v.seats.length : Int) = ((i + 1 : Nat) : Int) := by rw [i64wrap (by omega)]; omega
      have hOG' := hOG
      obtain ⟨_, _, _, ee, t1, t2, t3, a1, a2, a3⟩ := hOG
      simp only [List.cons.injEq, and_true, true_and] at ee
      obtain ⟨rfl, _, _, rfl, rfl⟩ := ee
      cases b with
      | none =>
        simp -implicitDefEqProofs [o2, opAppend, srcCells, opBuildSlice, maxA, hr1, k0, r1]
        have hk0 : v1.kills = [] := by rw [hk1v, o2]
        refine ⟨[((i + 1 : Nat) : Int)], .inr (by rw [hk0]; rfl), ⟨some (H2.n + 1), some (G.n + 1), c, _, (EG.newOf _).newOf _, ⟨_, _, _, by rw [hg1v, hr1v], (t1.ext (Ext.new _ _)).ext (Ext.new _ _), OwO.push0 (by omega) _ _ (by simp [intC]), (t3.ext (Ext.new _ _)).ext (Ext.new _ _), fun n hn => ?_, a2, fun n hn => ?_⟩, by simp, by simp, by simp, by simp, by simp, by simp, by simp, by simp, by simp, by simp⟩, by simp⟩
        · obtain rfl := Option.some.inj hn; simp; omega
        · obtain rfl := Option.some.inj hn; exact t3.lt (by omega)
      | some bk =>
        obtain ⟨o21, o22, o23⟩ := t2.2
        have hbk : ¬ bk = G.n := by omega
        obtain ⟨FK, hFK⟩ : ∃ F, F = v1.kills.flatMap intC := ⟨_, rfl⟩
        have hFKl : FK.length = v.kills.length := by have := flatA_len 1 intC_len v1.kills; rw [← hFK, hk1v] at this; omega
        rw [← hFK] at o21
        have hkl := hM.klen
        have hmk : (v.kills.length + 1) * 8 ≤ 140737488355328 := by omega
        have e9 : FK.take v.kills.length = FK := List.take_of_length_le (by omega)
        simp -implicitDefEqProofs [opAppend, srcCells, opBuildSlice, maxA, hr1, k0, r1, hbk, o21, hFKl, hmk, e9]
        have k2 := t2.push (.row true 3 [.int .i64 ((i + 1 : Nat) : Int)]) ((i + 1 : Nat) : Int) (cells := FK ++ [.int .i64 ((i + 1 : Nat) : Int)]) (by simp [hFK, intC])
        refine ⟨v1.kills ++ [((i + 1 : Nat) : Int)], .inr rfl, ⟨some (H2.n + 1), some (G.n + 1), c, _, ext_push EG o22 _ _ _, ⟨_, _, _, by rw [hg1v, hr1v], t1.keep _ _ (fun q => a1 _ rfl q.symm), by rw [hk1v] at k2 ⊢; exact k2, t3.keep _ _ (a3 _ rfl), fun n hn => ?_, a2, fun n hn => ?_⟩, by simp, by simp, by simp, by simp, by simp, by simp, by simp, by simp, by simp, by simp⟩, by simp⟩
        · obtain rfl := Option.some.inj hn; simp; omega
        · obtain rfl := Option.some.inj hn; exact t3.lt (by omega)
    · simp -implicitDefEqProofs [k0]
      refine ⟨v1.kills, .inl rfl, ⟨some (H2.n + 1), b, c, _, EG, hOG, by simp, by simp, by simp, by simp, by simp, by simp, by simp, by simp, by simp, by simp⟩, by simp⟩
  clear hbn hF hFl o11 hmx e8 hG EG hOG n1 ha o2 o3 ap o12 o13
  rintro ⟨T3, ⟨X3, H3⟩⟩ ⟨ks, hks, ⟨a, b, c, cs, hE, hO, ha, g0, g1, g4, g5, g6, g7, g8, x4, x5⟩, g9⟩
  simp at hE hO g0 g1 g4 g5 g6 g7 g8 x4 x5 g9
  obtain ⟨v2, hv2⟩ : ∃ v2 : VenR, v2 = { v1 with kills := ks } := ⟨_, rfl⟩
  rw [← hv2] at hO
  have hO' := hO
  obtain ⟨sv, kv, pv, rfl, t1, t2, t3, a1, a2, a3⟩ := hO
  obtain ⟨ux, hux⟩ : ∃ z, z = uv.tmod 11 := ⟨_, rfl⟩
  have p3 : IntKind.wrap .u64 ux = ux := u64wrap (by rw [hux, Int.tmod_eq_emod_of_nonneg huv0.1]; omega)
  obtain ⟨uy, huy⟩ : ∃ z, z = u.tdiv 500 := ⟨_, rfl⟩
  have huy0 : 0 ≤ uy ∧ uy < 18446744073709551616 := by rw [huy, Int.tdiv_eq_ediv_of_nonneg hu0.1]; omega
  have p4 : IntKind.wrap .u64 uy = uy := u64wrap (by omega)
  obtain ⟨uz, huz⟩ : ∃ z, z = uy.tmod 12 := ⟨_, rfl⟩
  have huz0 : 0 ≤ uz ∧ uz < 12 := by rw [huz, Int.tmod_eq_emod_of_nonneg huy0.1]; omega
  have p5 : IntKind.wrap .u64 uz = uz := u64wrap (by omega)
  have p6 : IntKind.wrap .i64 uz = uz := i64wrap (by omega)
  have p7 : IntKind.wrap .i64 (1 + uz) = 1 + uz := i64wrap (by omega)
  simp -implicitDefEqProofs [g0, g1, g4, g5, g6, g7, g8, g9, x4, x5, ← huv, p1, ← hux, p3]
  have hr3 : List.range 3 = [0, 1, 2] := rfl
  have hp2v : v2.poles = v.poles := by rw [hv2]; exact hp1v
  refine condQ_cut (M4 (.slice (some ⟨b1, o1', none⟩) l.length cap) most h i v2 row1 x1 u) ?_ ?_
  · by_cases k0 : ux = 1
    · cases c with
      | none =>
        obtain ⟨rfl, t3'⟩ := t3
        have hp0 : v2.poles = [] := t3'
        simp -implicitDefEqProofs [hp0, g0, g1, g4, g5, g6, g7, g8, g9, x4, x5, opAppend, srcCells, opBuildSlice, maxA, hr3, k0, f1, ← huy, p4, ← huz, p5, p6, p7]
        refine ⟨[⟨x1, 10 * row1, 1 + uz⟩], .inr ⟨1 + uz, by omega, by omega, by rw [hp0]; rfl⟩, ⟨a, b, some (H3.n + 1), _, (hE.newOf _).newOf _, ⟨_, _, _, rfl, (t1.ext (Ext.new _ _)).ext (Ext.new _ _), (t2.ext (Ext.new _ _)).ext (Ext.new _ _), OwO.push0 hE.n _ _ (by simp [poleC]), a1, fun n hn => ?_, fun n hn => ?_⟩, ha, by simp, by simp, by simp, by simp, by simp, by simp, by simp, by simp, by simp⟩, by simp⟩
        · subst hn; intro q; obtain rfl := Option.some.inj q; exact t1.lt (Nat.le_succ _) rfl
        · subst hn; intro q; obtain rfl := Option.some.inj q; exact t2.lt (Nat.le_succ _) rfl
      | some bk =>
        have t3'' := t3
        obtain ⟨rfl, o21, o22, o23⟩ := t3
        have hbk : ¬ bk = H3.n := by omega
        obtain ⟨FK, hFK⟩ : ∃ F, F = v2.poles.flatMap poleC := ⟨_, rfl⟩
        have hFKl : FK.length = v2.poles.length * 3 := by rw [hFK]; exact flatA_len 3 poleC_len v2.poles
        rw [← hFK] at o21
        have hpl := hM.plen
        have hmk : (v2.poles.length + 1) * 24 ≤ 140737488355328 := by rw [hp2v]; omega
        have e9 : FK.take (v2.poles.length * 3) = FK := List.take_of_length_le (by omega)
        simp -implicitDefEqProofs [g0, g1, g4, g5, g6, g7, g8, g9, x4, x5, opAppend, srcCells, opBuildSlice, maxA, hr3, k0, hbk, o21, hFKl, hmk, e9, f1, ← huy, p4, ← huz, p5, p6, p7]
        have k2 := t3''.push (.row true 93 [.int .i64 x1, .int .i64 (10 * row1), .int .i64 (1 + uz)]) ⟨x1, 10 * row1, 1 + uz⟩ (cells := FK ++ [.int .i64 x1, .int .i64 (10 * row1), .int .i64 (1 + uz)]) (by simp [hFK, poleC])
        refine ⟨v2.poles ++ [⟨x1, 10 * row1, 1 + uz⟩], .inr ⟨1 + uz, by omega, by omega, rfl⟩, ⟨a, b, some (H3.n + 1), _, ext_push hE o22 _ _ _, ⟨_, _, _, rfl, t1.keep _ _ (fun q => a2 _ q rfl), t2.keep _ _ (fun q => a3 _ q rfl), k2, a1, fun n hn => ?_, fun n hn => ?_⟩, ha, by simp, by simp, by simp, by simp, by simp, by simp, by simp, by simp, by simp⟩, by simp⟩
        · subst hn; intro q; obtain rfl := Option.some.inj q; exact t1.lt (Nat.le_succ _) rfl
        · subst hn; intro q; obtain rfl := Option.some.inj q; exact t2.lt (Nat.le_succ _) rfl
    · simp -implicitDefEqProofs [k0]
      exact ⟨v2.poles, .inl rfl, ⟨a, b, c, _, hE, hO', ha, by simp, by simp, by simp, by simp, by simp, by simp, by simp, by simp, by simp⟩, by simp⟩
  clear g0 g1 g4 g5 g6 g7 g8 g9 x4 x5 hE hO' t1 t2 t3 a1 a2 a3 ha
  rintro ⟨T4, ⟨X4, H4⟩⟩ ⟨ps, hps, ⟨a, b, c, cs, hE, hO, ha, g0, g1, g4, g5, g6, g7, g8, x4, x5⟩, g9⟩
  simp at hE hO g0 g1 g4 g5 g6 g7 g8 x4 x5 g9
  obtain ⟨v3, hv3⟩ : ∃ v3 : VenR, v3 = { v2 with poles := ps } := ⟨_, rfl⟩
  rw [← hv3] at hO
  have hO' := hO
  obtain ⟨sv, kv, pv, rfl, t1, t2, t3, ap⟩ := hO
  obtain ⟨ur, hur⟩ : ∃ z, z = uv.tmod 5 := ⟨_, rfl⟩
  have p8 : IntKind.wrap .u64 ur = ur := u64wrap (by rw [hur, Int.tmod_eq_emod_of_nonneg huv0.1]; omega)
  obtain ⟨us, hus⟩ : ∃ z, z = u.tdiv 300 := ⟨_, rfl⟩
  have hus0 : 0 ≤ us ∧ us < 18446744073709551616 := by rw [hus, Int.tdiv_eq_ediv_of_nonneg hu0.1]; omega
  have p9 : IntKind.wrap .u64 us = us := u64wrap (by omega)
  obtain ⟨ut, hut⟩ : ∃ z, z = us.tmod 25 := ⟨_, rfl⟩
  have hut0 : 0 ≤ ut ∧ ut < 25 := by rw [hut, Int.tmod_eq_emod_of_nonneg hus0.1]; omega
  have p10 : IntKind.wrap .u64 ut = ut := u64wrap (by omega)
  have p11 : IntKind.wrap .i64 ut = ut := i64wrap (by omega)
  simp -implicitDefEqProofs [g0, g1, g4, g5, g6, g7, g8, g9, x4, x5, ← huv, p1, ← hur, p8]
  refine condQ_cutB (M5 (.slice (some ⟨b1, o1', none⟩) l.length cap) most h i v3 row1 x1) ?_ ?_
  · by_cases k0 : ur = 3
    · simp -implicitDefEqProofs [g0, g1, g4, g5, g6, g7, g8, g9, x4, x5, k0, ← hus, p9, ← hut, p10, p11]
      exact ⟨ut, .inr ⟨by omega, by omega⟩, ⟨a, b, c, _, hE, ⟨_, _, _, rfl, t1, t2, t3, ap⟩, ha, by simp, by simp, by simp, by simp, by simp, by simp, by simp, by simp, by simp⟩⟩
    · simp -implicitDefEqProofs [k0]
      exact ⟨v3.radius, .inl rfl, ⟨a, b, c, _, hE, hO', ha, by simp, by simp, by simp, by simp, by simp, by simp, by simp, by simp, by simp⟩⟩
  clear g0 g1 g4 g5 g6 g7 g8 g9 x4 x5 hE hO' t1 t2 t3 ap ha
  rintro ⟨T5, ⟨X5, H5⟩⟩ ⟨r, hr, ⟨a, b, c, cs, hE, hO, ha, g0, g1, g4, g5, g6, g7, g8, x4, x5⟩⟩
  simp at hE hO g0 g1 g4 g5 g6 g7 g8 x4 x5
  have w1 : IntKind.wrap .i64 ((i : Int) + 1) = ((i + 1 : Nat) : Int) := by rw [i64wrap (by omega)]; omega
  have hMade : Made (i + 1) { v3 with radius := r } row1 x1 := by
    rw [hv3, hv2, hv1]
    refine made_step hM hst hk0 hk2 ?_ ?_ ?_
    · rw [← hk1v]; exact hks
    · rw [← hp2v]; exact hps
    · rw [hv3] at hr; rw [← hr1v]; rw [hv2] at hr; exact hr
  simp -implicitDefEqProofs [g0, g1, g4, g5, g6, g7, g8, x4, x5, w1]
  refine ⟨(most - ((i + 1 : Nat) : Int)).toNat, by omega, i + 1, _, _, _, rfl, by omega, hMade, a, b, c, _, hE, hO, ha, by simp, by simp, by simp, by simp, by simp, by simp, by simp, by simp, by simp⟩
end Go.Proofs.Yph.V
namespace Go.Proofs.Yph.V
open Go Go.Am
set_option maxRecDepth 20000
set_option maxHeartbeats 2000000
theorem take_ne {α : Type} {xs ys : List α} {i : Nat} {a b : α} (h1 : xs[i]? = some a) (h2 : ys[i]? = some b) (h : a ≠ b) : xs ≠ ys := fun e => h (by rw [e, h2] at h1; exact (Option.some.inj h1).symm)
theorem take_next {α : Type} {xs ys : List α} {i : Nat} {a : α} (h1 : xs[i]? = some a) (h2 : ys[i]? = some a) (h : xs.take i = ys.take i) : xs.take (i + 1) = ys.take (i + 1) := by
  rw [List.take_add_one, List.take_add_one, h, h1, h2]
def sameV (a b : VenR) : Bool := decide (a.gap = b.gap) && (decide (a.radius = b.radius) && (decide (a.seats = b.seats) && (decide (a.kills = b.kills) && decide (a.poles = b.poles))))
def JS (ti : Nat) (ca cb : List Value) {α : Type} (xs ys : List α) (m : Nat) (h : Heap) (n : Nat) (σ : St) : Prop := ∃ i : Nat, n = m - i ∧ i ≤ m ∧ σ.m.h = h ∧ σ.t.get 2 = some (.pointer (some ⟨2, 0, some 0⟩)) ∧ σ.t.get 3 = some (.pointer (some ⟨3, 0, some 0⟩)) ∧ σ.t.get ti = some (.int .i64 (i : Nat)) ∧ σ.m.x.look 2 = some (33, ca) ∧ σ.m.x.look 3 = some (33, cb) ∧ xs.take i = ys.take i
theorem rsame_ok (a b : VenR) (ca cb : List Value) (ha : venSmall a) (h : Heap) (Ha : VenC h a ca) (Hb : VenC h b cb) : ACalls PP 17 [.agg ⟨ca⟩, .agg ⟨cb⟩] h (fun r h' => h' = h ∧ r = .bool (sameV a b)) := by
  refine acalls_of_vc mix fn17 bodyEq17 rfl (by show 2 ≤ 101; decide) ok17 ?_
  simp only [body17, Tryz.f17]
  obtain ⟨s, k, p, rfl, h1, h2, h3⟩ := Ha
  obtain ⟨s', k', p', rfl, h1', h2', h3'⟩ := Hb
  obtain ⟨ad1, c1, e1⟩ := h1.shape
  obtain ⟨ad2, c2, e2⟩ := h2.shape
  obtain ⟨ad3, c3, e3⟩ := h3.shape
  obtain ⟨ad4, c4, e4⟩ := h1'.shape
  obtain ⟨ad5, c5, e5⟩ := h2'.shape
  obtain ⟨ad6, c6, e6⟩ := h3'.shape
  subst e1; subst e2; subst e3; subst e4; subst e5; subst e6
  unfold sameV
  by_cases q1 : a.gap = b.gap
  rotate_left
  · simp -implicitDefEqProofs [q1]
  by_cases q2 : a.radius = b.radius
  rotate_left
  · simp -implicitDefEqProofs [q1, q2]
  by_cases q3 : (a.seats.length : Int) = b.seats.length
  rotate_left
  · have : ¬ a.seats = b.seats := fun e => q3 (by rw [e])
    simp -implicitDefEqProofs [q1, q2, q3, this]
  by_cases q4 : (a.kills.length : Int) = b.kills.length
  rotate_left
  · have : ¬ a.kills = b.kills := fun e => q4 (by rw [e])
    simp -implicitDefEqProofs [q1, q2, q3, q4, this]
  by_cases q5 : (a.poles.length : Int) = b.poles.length
  rotate_left
  · have : ¬ a.poles = b.poles := fun e => q5 (by rw [e])
    simp -implicitDefEqProofs [q1, q2, q3, q4, q5, this]
  obtain ⟨ms, hms⟩ : ∃ m, m = a.seats.length := ⟨_, rfl⟩
  have hms2 : b.seats.length = ms := by omega
  obtain ⟨mk, hmk⟩ : ∃ m, m = a.kills.length := ⟨_, rfl⟩
  have hmk2 : b.kills.length = mk := by omega
  obtain ⟨mp, hmp⟩ : ∃ m, m = a.poles.length := ⟨_, rfl⟩
  have hmp2 : b.poles.length = mp := by omega
  obtain ⟨hv1, hv2, hv3⟩ := ha
  rw [← hms] at h1 hv1 ⊢
  rw [hms2] at h1' ⊢
  rw [← hmk] at h2 hv2 ⊢
  rw [hmk2] at h2' ⊢
  rw [← hmp] at h3 hv3 ⊢
  rw [hmp2] at h3' ⊢
  clear q3 q4 q5
  rw [q1, q2]
  obtain ⟨ga, hga⟩ : ∃ z, z = b.gap := ⟨_, rfl⟩
  obtain ⟨ra, hra⟩ : ∃ z, z = b.radius := ⟨_, rfl⟩
  rw [← hga, ← hra]
  obtain ⟨post, hpost⟩ : ∃ post : Value → Heap → Prop, post = (fun r h' => h' = h ∧ r = Value.bool (decide (ga = ga) && (decide (ra = ra) && (decide (a.seats = b.seats) && (decide (a.kills = b.kills) && decide (a.poles = b.poles)))))) := ⟨_, rfl⟩
  rw [← hpost]
  have pf : ∀ x, x = (decide (a.seats = b.seats) && (decide (a.kills = b.kills) && decide (a.poles = b.poles))) → post (.bool x) h := fun x hx => by rw [hpost]; exact ⟨rfl, by rw [hx]; simp⟩
  simp -implicitDefEqProofs
  refine vc_loop (JS 5 [.slice ad1 ms c1, .int .i64 ga, .int .i64 ra, .slice ad2 mk c2, .slice ad3 mp c3] [.slice ad4 ms c4, .int .i64 ga, .int .i64 ra, .slice ad5 mk c5, .slice ad6 mp c6] a.seats b.seats ms h) _ ⟨0, rfl, by omega, rfl, by simp, by simp, by simp, by simp, by simp, by simp⟩ ?_
  rintro n0 ⟨T0, ⟨x0', H0⟩⟩ ⟨i0, rfl, hi0, hH, g2, g3, gi, x2, x3, ht0⟩
  simp at hH g2 g3 gi x2 x3
  subst hH
  simp -implicitDefEqProofs [g2, g3, gi, x2, x3]
  refine condQ_of (fun hc => ?_) (fun hc => ?_) <;> simp only [decide_eq_true_eq, decide_eq_false_iff_not] at hc
  · have him : i0 < ms := by omega
    have hA : a.seats[i0]? = some a.seats[i0] := List.getElem?_eq_getElem (by omega)
    have hB : b.seats[i0]? = some b.seats[i0] := List.getElem?_eq_getElem (by omega)
    obtain ⟨_, b1, o1, wb1, cs1, r1, rfl, hb1, hd1, hl1, _⟩ := h1.at 4 seatC_len hA
    obtain ⟨_, b2, o2, wb2, cs2, r2, rfl, hb2, hd2, hl2, _⟩ := h1'.at 4 seatC_len hB
    obtain ⟨a', hea⟩ : ∃ z, z = a.seats[i0] := ⟨_, rfl⟩
    obtain ⟨b', heb⟩ : ∃ z, z = b.seats[i0] := ⟨_, rfl⟩
    rw [← hea] at hd1 hA
    rw [← heb] at hd2 hB
    have w1 : IntKind.wrap .i64 ((i0 : Int) + 1) = ((i0 + 1 : Nat) : Int) := by rw [i64wrap (by omega)]; omega
    obtain ⟨ar, ax, ay, ak⟩ := a'
    obtain ⟨br', bx', by', bk'⟩ := b'
    simp -implicitDefEqProofs [g2, g3, gi, x2, x3, him, hb1, hb2, hd1, hd2, hl1, hl2, seatC]
    refine condQ_of (fun hq => ?_) (fun hq => ?_)
    · have hne : ¬ a.seats = b.seats := take_ne hA hB (fun e => by simp only [SeatR.mk.injEq] at e; simp [e.1, e.2.1, e.2.2.1, e.2.2.2] at hq)
      simp -implicitDefEqProofs
      exact pf _ (by simp [hne])
    · simp at hq
      obtain ⟨rfl, rfl, rfl, rfl⟩ := hq
      simp -implicitDefEqProofs [g2, g3, gi, x2, x3, w1]
      exact ⟨ms - (i0 + 1), by omega, i0 + 1, rfl, by omega, rfl, by simp [g2], by simp [g3], by simp, by simp [x2], by simp [x3], take_next hA hB ht0⟩
  have hee0 : i0 = ms := by omega
  have heq0 : a.seats = b.seats := by rw [List.take_of_length_le (by omega), List.take_of_length_le (by omega)] at ht0; exact ht0
  simp -implicitDefEqProofs [g2, g3, gi, x2, x3]
  clear ht0 hee0 hi0
  refine vc_loop (JS 6 [.slice ad1 ms c1, .int .i64 ga, .int .i64 ra, .slice ad2 mk c2, .slice ad3 mp c3] [.slice ad4 ms c4, .int .i64 ga, .int .i64 ra, .slice ad5 mk c5, .slice ad6 mp c6] a.kills b.kills mk H0) _ ⟨0, rfl, by omega, rfl, by simp [g2, g3, x2, x3], by simp [g2, g3, x2, x3], by simp [g2, g3, x2, x3], by simp [g2, g3, x2, x3], by simp [g2, g3, x2, x3], by simp⟩ ?_
  clear g2 g3 gi x2 x3 hc
  rintro n1 ⟨T1, ⟨x1', H1⟩⟩ ⟨i1, rfl, hi1, hH, g2, g3, gi, x2, x3, ht1⟩
  simp at hH g2 g3 gi x2 x3
  subst hH
  simp -implicitDefEqProofs [g2, g3, gi, x2, x3]
  refine condQ_of (fun hc => ?_) (fun hc => ?_) <;> simp only [decide_eq_true_eq, decide_eq_false_iff_not] at hc
  · have him : i1 < mk := by omega
    have hA : a.kills[i1]? = some a.kills[i1] := List.getElem?_eq_getElem (by omega)
    have hB : b.kills[i1]? = some b.kills[i1] := List.getElem?_eq_getElem (by omega)
    obtain ⟨_, b1, o1, wb1, cs1, r1, rfl, hb1, hd1, hl1, _⟩ := h2.at 1 intC_len hA
    obtain ⟨_, b2, o2, wb2, cs2, r2, rfl, hb2, hd2, hl2, _⟩ := h2'.at 1 intC_len hB
    obtain ⟨a', hea⟩ : ∃ z, z = a.kills[i1] := ⟨_, rfl⟩
    obtain ⟨b', heb⟩ : ∃ z, z = b.kills[i1] := ⟨_, rfl⟩
    rw [← hea] at hd1 hA
    rw [← heb] at hd2 hB
    have w1 : IntKind.wrap .i64 ((i1 : Int) + 1) = ((i1 + 1 : Nat) : Int) := by rw [i64wrap (by omega)]; omega
    rw [Nat.mul_one] at hd1 hd2 hl1 hl2
    simp -implicitDefEqProofs [g2, g3, gi, x2, x3, him, hb1, hb2, hd1, hd2, hl1, hl2, intC]
    refine condQ_of (fun hq => ?_) (fun hq => ?_)
    · have hne : ¬ a.kills = b.kills := take_ne hA hB (fun e => by simp [e] at hq)
      simp -implicitDefEqProofs
      exact pf _ (by simp [hne])
    · simp at hq
      subst hq
      simp -implicitDefEqProofs [g2, g3, gi, x2, x3, w1]
      exact ⟨mk - (i1 + 1), by omega, i1 + 1, rfl, by omega, rfl, by simp [g2], by simp [g3], by simp, by simp [x2], by simp [x3], take_next hA hB ht1⟩
  have hee1 : i1 = mk := by omega
  have heq1 : a.kills = b.kills := by rw [List.take_of_length_le (by omega), List.take_of_length_le (by omega)] at ht1; exact ht1
  simp -implicitDefEqProofs [g2, g3, gi, x2, x3]
  clear ht1 hee1 hi1
  refine vc_loop (JS 7 [.slice ad1 ms c1, .int .i64 ga, .int .i64 ra, .slice ad2 mk c2, .slice ad3 mp c3] [.slice ad4 ms c4, .int .i64 ga, .int .i64 ra, .slice ad5 mk c5, .slice ad6 mp c6] a.poles b.poles mp H1) _ ⟨0, rfl, by omega, rfl, by simp [g2, g3, x2, x3], by simp [g2, g3, x2, x3], by simp [g2, g3, x2, x3], by simp [g2, g3, x2, x3], by simp [g2, g3, x2, x3], by simp⟩ ?_
  clear g2 g3 gi x2 x3 hc
  rintro n2 ⟨T2, ⟨x2', H2⟩⟩ ⟨i2, rfl, hi2, hH, g2, g3, gi, x2, x3, ht2⟩
  simp at hH g2 g3 gi x2 x3
  subst hH
  simp -implicitDefEqProofs [g2, g3, gi, x2, x3]
  refine condQ_of (fun hc => ?_) (fun hc => ?_) <;> simp only [decide_eq_true_eq, decide_eq_false_iff_not] at hc
  · have him : i2 < mp := by omega
    have hA : a.poles[i2]? = some a.poles[i2] := List.getElem?_eq_getElem (by omega)
    have hB : b.poles[i2]? = some b.poles[i2] := List.getElem?_eq_getElem (by omega)
    obtain ⟨_, b1, o1, wb1, cs1, r1, rfl, hb1, hd1, hl1, _⟩ := h3.at 3 poleC_len hA
    obtain ⟨_, b2, o2, wb2, cs2, r2, rfl, hb2, hd2, hl2, _⟩ := h3'.at 3 poleC_len hB
    obtain ⟨a', hea⟩ : ∃ z, z = a.poles[i2] := ⟨_, rfl⟩
    obtain ⟨b', heb⟩ : ∃ z, z = b.poles[i2] := ⟨_, rfl⟩
    rw [← hea] at hd1 hA
    rw [← heb] at hd2 hB
    have w1 : IntKind.wrap .i64 ((i2 : Int) + 1) = ((i2 + 1 : Nat) : Int) := by rw [i64wrap (by omega)]; omega
    obtain ⟨ax, ay, ar⟩ := a'
    obtain ⟨bx', by', br'⟩ := b'
    simp -implicitDefEqProofs [g2, g3, gi, x2, x3, him, hb1, hb2, hd1, hd2, hl1, hl2, poleC]
    refine condQ_of (fun hq => ?_) (fun hq => ?_)
    · have hne : ¬ a.poles = b.poles := take_ne hA hB (fun e => by simp only [PoleR.mk.injEq] at e; simp [e.1, e.2.1, e.2.2] at hq)
      simp -implicitDefEqProofs
      exact pf _ (by simp [hne])
    · simp at hq
      obtain ⟨rfl, rfl, rfl⟩ := hq
      simp -implicitDefEqProofs [g2, g3, gi, x2, x3, w1]
      exact ⟨mp - (i2 + 1), by omega, i2 + 1, rfl, by omega, rfl, by simp [g2], by simp [g3], by simp, by simp [x2], by simp [x3], take_next hA hB ht2⟩
  have hee2 : i2 = mp := by omega
  have heq2 : a.poles = b.poles := by rw [List.take_of_length_le (by omega), List.take_of_length_le (by omega)] at ht2; exact ht2
  simp -implicitDefEqProofs [g2, g3, gi, x2, x3]
  clear ht2 hee2 hi2
  exact pf _ (by simp [heq0, heq1, heq2])
end Go.Proofs.Yph.V
namespace Go.Proofs.Yph.V
open Go Go.Am
set_option maxRecDepth 20000
set_option maxHeartbeats 2000000
theorem made_sorted {i : Nat} {v : VenR} {row x : Int} (M : Made i v row x) : ∀ (j d : Nat) (s t : SeatR), v.seats[j]? = some s → v.seats[j + d + 1]? = some t → lessS s t = true := by
  intro j d
  induction d with
  | zero => intro s t h1 h2; exact M.up j s t h1 h2
  | succ d ih =>
    intro s t h1 h2
    have hlt := (List.getElem?_eq_some_iff.mp h2).1
    have h3 : v.seats[j + d + 1]? = some v.seats[j + d + 1] := List.getElem?_eq_getElem (by omega)
    have q1 := ih s _ h1 h3
    have q2 := M.up _ _ _ h3 (by rw [show j + d + 1 + 1 = j + (d + 1) + 1 by omega]; exact h2)
    rw [lessS_iff] at *
    omega
theorem made_pw {i : Nat} {v : VenR} {row x : Int} (M : Made i v row x) : v.seats.Pairwise (fun a b => lessS a b = true) := by
  rw [List.pairwise_iff_getElem]
  intro a b ha hb hab
  exact made_sorted M a (b - a - 1) _ _ (List.getElem?_eq_getElem ha) (by rw [show a + (b - a - 1) + 1 = b by omega]; exact List.getElem?_eq_getElem hb)
theorem perm_sorted {xs ys : List SeatR} (hx : xs.Pairwise (fun a b => lessS a b = true)) (hp : ys.Perm xs) (hs : SortedS ys) : ys = xs := by
  have hy : ys.Pairwise (fun a b => lessS b a = false) := by
    rw [List.pairwise_iff_getElem]
    intro a b ha hb hab
    exact hs a b _ _ hab (List.getElem?_eq_getElem ha) (List.getElem?_eq_getElem hb)
  induction xs generalizing ys with
  | nil => exact List.perm_nil.1 hp
  | cons x r ih =>
    cases ys with
    | nil => exact absurd hp.length_eq (by simp)
    | cons y z =>
      rw [List.pairwise_cons] at hx hy
      have e : y = x := by
        rcases List.mem_cons.1 (hp.subset (List.mem_cons_self)) with e | e
        · exact e
        · have q1 := hx.1 y e
          rcases List.mem_cons.1 (hp.symm.subset (List.mem_cons_self)) with e2 | e2
          · exact e2.symm
          · have := hy.1 x e2; rw [q1] at this; cases this
      subst e
      rw [ih hx.2 ((List.perm_cons y).1 hp) (fun i j a b hij hi hj => hs (i + 1) (j + 1) a b (by omega) hi hj) hy.2]
theorem sortI_up {l ks : List Int} (hu : ∀ j a b, ks[j]? = some a → ks[j + 1]? = some b → a < b) (hp : l.Perm ks) : sortI l = ks := by
  have h1 : (sortI l).Perm ks := (List.mergeSort_perm l _).trans hp
  have h2 : (sortI l).Pairwise (fun a b => a ≤ b) := by
    have := List.pairwise_mergeSort (le := fun a b : Int => decide (a ≤ b)) (fun a b c h1 h2 => by simp at *; omega) (fun a b => by simp; omega) l
    exact this.imp (fun h => by simpa using h)
  have h3 : ks.Pairwise (fun a b => a < b) := by
    have key : ∀ (d j : Nat) (a b : Int), ks[j]? = some a → ks[j + d + 1]? = some b → a < b := by
      intro d
      induction d with
      | zero => exact hu
      | succ d ih =>
        intro j a b q1 q2
        have hlt := (List.getElem?_eq_some_iff.mp q2).1
        have q3 : ks[j + d + 1]? = some ks[j + d + 1] := List.getElem?_eq_getElem (by omega)
        have r1 := ih j a _ q1 q3
        have r2 := hu _ _ _ q3 (by rw [show j + d + 1 + 1 = j + (d + 1) + 1 by omega]; exact q2)
        omega
    rw [List.pairwise_iff_getElem]
    intro a b ha hb hab
    exact key (b - a - 1) a _ _ (List.getElem?_eq_getElem ha) (by rw [show a + (b - a - 1) + 1 = b by omega]; exact List.getElem?_eq_getElem hb)
  exact h1.eq_of_pairwise (fun a b _ _ q1 q2 => by omega) h2 (h3.imp (fun h => by omega))
def trn (k n : Nat) (a : Int) : Int := (a - k + n) % n
def turnK (k n j : Nat) (K : List Int) : List Int := ((K.take j).map (trn k n)).reverse
def turnV (v : VenR) (k : Nat) : VenR := ⟨v.seats.drop k ++ v.seats.take k, v.gap, v.radius, turnK k v.seats.length v.kills.length v.kills, v.poles⟩
theorem turn_perm (v : VenR) (k : Nat) : (turnV v k).seats.Perm v.seats := by
  show (v.seats.drop k ++ v.seats.take k).Perm v.seats
  have := (List.perm_append_comm (l₁ := v.seats.drop k) (l₂ := v.seats.take k))
  rwa [List.take_append_drop] at this
theorem made_find {i : Nat} {v : VenR} {row x : Int} (M : Made i v row x) {a : Nat} (ha : a < v.seats.length) : findA (atS (v.seats.getD a default)) v.seats = a := by
  have e : v.seats[a]? = some v.seats[a] := List.getElem?_eq_getElem ha
  have e2 : v.seats.getD a default = v.seats[a] := by simp [List.getD_eq_getElem?_getD, e]
  rw [e2]
  refine find_hit e (by simp [atS]) (fun j t hj ht => ?_)
  have := made_sorted M j (a - j - 1) t _ ht (by rw [show j + (a - j - 1) + 1 = a by omega]; exact e)
  rw [lessS_iff] at this
  simp only [atS, Bool.and_eq_false_iff, decide_eq_false_iff_not]
  omega
theorem turn_get {v : VenR} {k : Nat} {a : Int} (hk : k < v.seats.length) (h0 : 0 ≤ a) (h1 : a < v.seats.length) : 0 ≤ trn k v.seats.length a ∧ trn k v.seats.length a < v.seats.length ∧ (turnV v k).seats.getD (trn k v.seats.length a).toNat default = v.seats.getD a.toNat default := by
  obtain ⟨n, hn⟩ : ∃ n, n = v.seats.length := ⟨_, rfl⟩
  rw [← hn] at hk h1 ⊢
  have hz : trn k n a = if (k : Int) ≤ a then a - k else a - k + n := by
    unfold trn
    split
    · rw [Int.add_emod_right, Int.emod_eq_of_lt (by omega) (by omega)]
    · rw [Int.emod_eq_of_lt (by omega) (by omega)]
  rw [hz]
  refine ⟨by split <;> omega, by split <;> omega, ?_⟩
  show (v.seats.drop k ++ v.seats.take k).getD _ default = _
  rw [List.getD_eq_getElem?_getD, List.getD_eq_getElem?_getD]
  congr 1
  by_cases q : (k : Int) ≤ a
  · rw [if_pos q, List.getElem?_append_left (by rw [List.length_drop]; omega), List.getElem?_drop]
    congr 1; omega
  · rw [if_neg q, List.getElem?_append_right (by rw [List.length_drop]; omega), List.length_drop, List.getElem?_take, if_pos (by omega)]
    congr 1; omega
theorem turn_killed {i : Nat} {v : VenR} {row x : Int} (M : Made i v row x) {k : Nat} (hk : k < v.seats.length) : (killedL (turnV v k)).map (fun s => findA (atS s) v.seats) = v.kills.reverse := by
  have hlen := M.len
  have e : (turnV v k).kills = (v.kills.map (trn k v.seats.length)).reverse := by
    show turnK k v.seats.length v.kills.length v.kills = _
    unfold turnK
    rw [List.take_length]
  unfold killedL
  rw [e, List.map_map, List.map_reverse, List.map_map]
  congr 1
  rw [List.map_congr_left (g := id) (fun a ha => ?_), List.map_id]
  have hb := M.kill a ha
  obtain ⟨q1, q2, q3⟩ := turn_get (a := a) hk (by omega) (by omega)
  simp only [Function.comp]
  rw [q3, made_find M (by omega)]
  simp only [id]; omega
theorem turn_in {i : Nat} {v : VenR} {row x : Int} (M : Made i v row x) {k : Nat} (hk : k < v.seats.length) : killsIn (turnV v k) = true := by
  have hlen := M.len
  unfold killsIn
  rw [List.all_eq_true]
  intro z hz
  have hz' : z ∈ turnK k v.seats.length v.kills.length v.kills := hz
  unfold turnK at hz'
  rw [List.take_length, List.mem_reverse, List.mem_map] at hz'
  obtain ⟨a, ha, rfl⟩ := hz'
  have hb := M.kill a ha
  obtain ⟨q1, q2, _⟩ := turn_get (a := a) hk (by omega) (by omega)
  have hl := (turn_perm v k).length_eq
  simp only [Bool.and_eq_true, decide_eq_true_eq]
  omega
theorem self_killed {i : Nat} {v : VenR} {row x : Int} (M : Made i v row x) : (killedL v).map (fun s => findA (atS s) v.seats) = v.kills := by
  have hlen := M.len
  unfold killedL
  rw [List.map_map, List.map_congr_left (g := id) (fun a ha => ?_), List.map_id]
  have hb := M.kill a ha
  simp only [Function.comp]
  rw [made_find M (by omega)]
  simp only [id]; omega
theorem self_in {i : Nat} {v : VenR} {row x : Int} (M : Made i v row x) : killsIn v = true := by
  have hlen := M.len
  unfold killsIn
  rw [List.all_eq_true]
  intro a ha
  have hb := M.kill a ha
  simp only [Bool.and_eq_true, decide_eq_true_eq]
  omega
theorem made_noAdj {i : Nat} {v : VenR} {row x : Int} (M : Made i v row x) : NoAdj v.kills := fun j a b h1 h2 => by have := M.kup j a b h1 h2; omega
theorem made_may {i : Nat} {v : VenR} {row x : Int} (M : Made i v row x) (hi : i ≤ 150) : mayV v = true := by
  have hlen := M.len
  have hg := M.gap
  have hr := M.radius
  have hkl := M.klen
  have hpl := M.plen
  have h1 : seatsOK v.seats = true := by
    unfold seatsOK
    rw [Bool.and_eq_true]
    refine ⟨?_, by simp; omega⟩
    rw [List.all_eq_true]
    intro j hj
    rw [List.mem_range] at hj
    unfold pairOK
    have e : v.seats[j]? = some v.seats[j] := List.getElem?_eq_getElem hj
    rw [e]
    have hs := M.seat _ (List.getElem_mem hj)
    have h1 : seatOK v.seats[j] = true := by
      simp only [seatOK, inB, Bool.and_eq_true, decide_eq_true_eq]
      omega
    simp only [h1, Bool.true_and]
    by_cases h0 : j = 0
    · simp [h0]
    · have e2 : v.seats[j - 1]? = some v.seats[j - 1] := List.getElem?_eq_getElem (by omega)
      rw [e2]
      have := M.up (j - 1) _ _ e2 (by rw [show j - 1 + 1 = j by omega]; exact e)
      simp [this]
  have h2 : inB v.gap 1 1048576 = true := by simp [inB, hg]
  have h3 : inB v.radius 0 1048576 = true := by simp [inB]; omega
  have h4 : killsOK v.kills v.seats.length = true := by
    unfold killsOK
    rw [Bool.and_eq_true]
    refine ⟨?_, by simp; omega⟩
    rw [List.all_eq_true]
    intro j hj
    rw [List.mem_range] at hj
    unfold killOK
    have e : v.kills[j]? = some v.kills[j] := List.getElem?_eq_getElem hj
    rw [e]
    have hs := M.kill _ (List.getElem_mem hj)
    simp only [Bool.and_eq_true, Bool.or_eq_true, decide_eq_true_eq]
    refine ⟨by omega, by omega, ?_⟩
    by_cases h0 : j = 0
    · exact .inl h0
    · have e2 : v.kills[j - 1]? = some v.kills[j - 1] := List.getElem?_eq_getElem (by omega)
      rw [e2]
      have := M.kup (j - 1) _ _ e2 (by rw [show j - 1 + 1 = j by omega]; exact e)
      exact .inr (by simpa using this)
  have h5 : polesOK v.poles = true := by
    unfold polesOK
    rw [Bool.and_eq_true]
    refine ⟨?_, by simp; omega⟩
    rw [List.all_eq_true]
    intro j hj
    rw [List.mem_range] at hj
    unfold poleI
    have e : v.poles[j]? = some v.poles[j] := List.getElem?_eq_getElem hj
    rw [e]
    have hs := M.pole _ (List.getElem_mem hj)
    simp only [poleOK, inB, Bool.and_eq_true, decide_eq_true_eq]
    omega
  unfold mayV wrongV
  rw [h1, h2, h3, h4, h5]
  rfl
end Go.Proofs.Yph.V
