import Derived.Test.YtmmbndbpjanfhaaDoorAmF4
set_option linter.unusedVariables false
set_option linter.unusedSimpArgs false
set_option linter.unusedSectionVars false
namespace Go.Proofs.Flt
open Go Go.Am
set_option maxRecDepth 20000
set_option maxHeartbeats 2000000
theorem step_nn {σ : St} (d : Option Nat) (x : Operand) (ty yt : TypeId) (pos : String) (aft : Array Edge) (g : Option (Nat × Bool)) (hx : opnd σ x = some .nilIface) :
    stepPure PP σ ⟨d, .binOp .eql 23 x (.const .nilIface) yt, ty, pos, aft, g⟩ = some (.bool true, σ) := by
  refine stepPure_of (by simp [Op.operands, flatO_of hx rfl]; rfl) rfl ?_ rfl
  have e1 : eqGuard .eql 23 x (.const .nilIface) .nilIface .nilIface = pure () := by unfold eqGuard; simp
  have e2 : binOp .eql 23 .nilIface .nilIface = (do pure (.bool (← Op.equal 23 .nilIface .nilIface))) := rfl
  have e3 : (Op.equal 23 .nilIface .nilIface).pureRun PP = some true := by
    have key : ∀ n, (Op.equalIn (n + 1) 23 .nilIface .nilIface).pureRun PP = some true := fun n => by simp [Op.equalIn, pureRun_bind, pureRun_under un23, pureRun_pure]
    exact key 9999
  have e4 : evO σ (.const .nilIface) = .nilIface := rfl
  simp only [execOp, evO_of hx, e4, e1, e2, pureRun_bind, pureRun_pure, Option.bind_some, e3]
attribute [simp] step_nn
def mx0 (a : Int) : Int := if a < 0 then 0 else a
def NewP (h : Heap) (l : List FR) (v : Value) (h' : Heap) : Prop := Ext h h' ∧ ChA h' h'.n v l
theorem new_ok (code line col : Int) (h : Heap) : ACalls PP 7 [.int .i64 code, .int .i64 line, .int .i64 col] h (NewP h (if code ≤ 0 then [] else [⟨code, mx0 line, mx0 col⟩])) := by
  refine acalls_of_vc mix fn7 bodyEq7 rfl (by show 3 ≤ 18; decide) ok7 ?_
  simp only [body7, Tryd.f7]
  by_cases h1 : code ≤ 0
  · simp -implicitDefEqProofs [h1]
    exact ⟨Ext.rfl' h, .nil⟩
  · simp -implicitDefEqProofs [h1, opMakeIface]
    exact ⟨Ext.new h _, .cons h.n ⟨code, mx0 line, mx0 col⟩ .nilIface [] (by simp [mx0]) (by simp) .nil⟩
theorem ChA.shape {h : Heap} {n : Nat} {E : Value} {l : List FR} (H : ChA h n E l) : (E = .nilIface ∧ l = []) ∨ ∃ b f E' r, E = .iface 41 (.pointer (some ⟨b, 0, none⟩)) ∧ l = f :: r ∧ h.f b = .row true 43 [.int .i64 f.code, .int .i64 f.line, .int .i64 f.col, E'] ∧ b < n ∧ ChA h n E' r := by
  cases H with
  | nil => exact .inl ⟨rfl, rfl⟩
  | cons b f E l h1 h2 h3 => exact .inr ⟨b, f, E, l, rfl, rfl, h1, h2, h3⟩
theorem wrap_ok (E : Value) (l : List FR) (code : Int) (h : Heap) (H : ChA h h.n E l) : ACalls PP 16 [E, .int .i64 code] h (NewP h (if code ≤ 0 then l else ⟨code, 0, 0⟩ :: l)) := by
  refine acalls_of_vc mix fn16 bodyEq16 rfl (by show 2 ≤ 19; decide) ok16 ?_
  simp only [body16, Tryd.f16]
  rcases H.shape with ⟨rfl, rfl⟩ | ⟨b, f, E', r, rfl, rfl, h1, h2, h3⟩
  · by_cases hc : code ≤ 0
    · simp -implicitDefEqProofs [hc]
      exact ⟨Ext.rfl' h, H⟩
    · simp -implicitDefEqProofs [hc]
      refine (new_ok code 0 0 h).mono ?_
      rintro v h' ⟨E, hv⟩
      rw [if_neg hc] at hv
      rcases hv.shape with ⟨_, q⟩ | ⟨b, f, E', r, rfl, q, k1, k2, k3⟩
      · cases q
      simp -implicitDefEqProofs [callQ]
      intro _
      exact ⟨E, hv⟩
  · by_cases hc : code ≤ 0
    · simp -implicitDefEqProofs [hc]
      exact ⟨Ext.rfl' h, H⟩
    · simp -implicitDefEqProofs [hc, opMakeIface]
      exact ⟨Ext.new h _, .cons h.n ⟨code, 0, 0⟩ _ _ (by simp) (by simp) (H.ext (Ext.new h _) |>.up (by simp) (fun _ _ => rfl))⟩
def ptrC (b : Nat) : List Value := [.pointer (some ⟨b, 0, none⟩)]
/-- the blocks of a chain's errors -/
def Blks (h : Heap) (bs : List Nat) (l : List FR) : Prop := bs.length = l.length ∧ ∀ (j b : Nat) (f : FR), bs[j]? = some b → l[j]? = some f → b < h.n ∧ ∃ E, h.f b = .row true 43 [.int .i64 f.code, .int .i64 f.line, .int .i64 f.col, E]
def AllP (h : Heap) (l : List FR) (v : Value) (h' : Heap) : Prop := Ext h h' ∧ ∃ bs o, Blks h bs l ∧ OwO 41 ptrC h h' o bs v
def J18 (h : Heap) (l : List FR) (bf : Nat) (m : Nat) (σ : St) : Prop := ∃ (i : Nat) (E : Value) (bs : List Nat) (o : Option Nat) (v old : Value), m = l.length - i ∧ i ≤ l.length ∧ Ext h σ.m.h ∧ ChA h h.n E (l.drop i) ∧ Blks h bs (l.take i) ∧ OwO 41 ptrC h σ.m.h o bs v ∧ o ≠ some bf ∧ bf < σ.m.h.n ∧ σ.m.h.f bf = .row true 41 [old] ∧
  σ.t.get 0 = some E ∧ σ.t.get 3 = some v ∧ σ.t.get 4 = some (.pointer (some ⟨bf, 0, none⟩))
theorem all_ok (E : Value) (l : List FR) (hl : l.length ≤ 1000) (h : Heap) (G : GlobOK h) (H : ChA h h.n E l) : ACalls PP 18 [E] h (AllP h l) := by
  refine acalls_of_vc mix fn18 bodyEq18 rfl (by show 1 ≤ 17; decide) ok18 ?_
  simp only [body18, Tryd.f18]
  have hloc : noLoc E = true := by rcases H.shape with ⟨rfl, _⟩ | ⟨b, f, E', r, rfl, _⟩ <;> rfl
  simp -implicitDefEqProofs
  refine vc_loop (J18 h l h.n) l.length ⟨0, E, [], none, .slice none 0 0, .pointer none, rfl, by omega, Ext.new h _, H, ⟨by simp, fun j b f hj => by simp at hj⟩, OwO.nil, by simp, by simp, by simp, by simp, by simp, by simp⟩ ?_
  rintro m ⟨T, ⟨x, H1⟩⟩ ⟨i, Ei, bs, o, v, old, rfl, hi, hE, hch, hB, hO, hob, hbf, hfb, g0, g3, g4⟩
  simp at hE hO hbf hfb g0 g3 g4
  obtain ⟨rfl, ho⟩ := id hO
  have hEi : noLoc Ei = true := by rcases hch.shape with ⟨rfl, _⟩ | ⟨b, f, E', r, rfl, _⟩ <;> rfl
  have hG1 := G.ext hE
  have hr1 : List.range 1 = [0] := rfl
  rcases hch.shape with ⟨rfl, hd⟩ | ⟨b, f, E', r, rfl, hd, h1, h2, h3⟩
  · have hie : i = l.length := by have := congrArg List.length hd; rw [List.length_drop] at this; simp at this; omega
    simp -implicitDefEqProofs [g0, g3, g4]
    refine (as_nil_ok _ H1 hG1).mono ?_
    rintro r H2 ⟨e3, rfl⟩
    replace e3 := e3.symm
    subst e3
    simp -implicitDefEqProofs [callQ, g0, g3, g4]
    intro _
    rw [hie, List.take_length] at hB
    exact ⟨hE, bs, o, hB, hO⟩
  · simp -implicitDefEqProofs [g0, g3, g4]
    refine (as_hit_ok b h.n old H1 hG1 hfb).mono ?_
    rintro r H2 ⟨rfl, e3⟩
    have hbn : ¬ b = h.n := by omega
    have hb1 : H1.f b = .row true 43 [.int .i64 f.code, .int .i64 f.line, .int .i64 f.col, E'] := by rw [hE.f b h2]; exact h1
    subst e3
    have hil : i < l.length := by
      rcases Nat.lt_or_ge i l.length with z | z
      · exact z
      · rw [List.drop_eq_nil_of_le z] at hd; cases hd
    have hti : l[i]? = some f := by
      have : (l.drop i)[0]? = some f := by rw [hd]; rfl
      simpa using this
    have hdr : l.drop (i + 1) = r := by
      have : (l.drop i).drop 1 = r := by rw [hd]; rfl
      rw [List.drop_drop] at this; exact this
    have hBl : bs.length = i := by have := hB.1; rw [List.length_take] at this; omega
    have hB' : Blks h (bs ++ [b]) (l.take (i + 1)) := by
      rw [List.take_add_one, hti]
      refine ⟨by simp [hB.1], fun j b' f' hj hf => ?_⟩
      rcases Nat.lt_or_ge j i with z | z
      · rw [List.getElem?_append_left (by omega)] at hj
        rw [List.getElem?_append_left (by rw [List.length_take]; omega)] at hf
        exact hB.2 j b' f' hj hf
      · rw [List.getElem?_append_right (by omega)] at hj
        rw [List.getElem?_append_right (by rw [List.length_take]; omega)] at hf
        have e1 : j - bs.length = 0 := by
          rcases Nat.eq_zero_or_pos (j - bs.length) with q | q
          · exact q
          · rw [List.getElem?_eq_none (by simp; omega)] at hj; cases hj
        rw [e1] at hj
        have e2 : j - (l.take i).length = 0 := by rw [List.length_take]; omega
        rw [e2] at hf
        simp at hj hf
        subst hj; subst hf
        exact ⟨h2, E', h1⟩
    have hE2 : ∀ c, Ext h (H1.set h.n c) := fun c => hE.setOf (Nat.le_refl _) c
    have hnH := hE.n
    have b1 : ¬ b = H1.n := by omega
    have b2 : ¬ b = H1.n + 1 := by omega
    have f1 : ¬ h.n = H1.n := by omega
    have f2 : ¬ h.n = H1.n + 1 := by omega
    have f3 : ¬ H1.n + 1 = h.n := by omega
    have hE'loc : noLoc E' = true := by rcases h3.shape with ⟨rfl, _⟩ | ⟨b, f, E', r, rfl, _⟩ <;> rfl
    have nxt : ∀ σ2 : St, Ext h σ2.m.h → ∀ o', OwO 41 ptrC h σ2.m.h (some o') (bs ++ [b]) (.slice (some ⟨o', 0, none⟩) (i + 1) (i + 1)) → o' ≠ h.n → h.n < σ2.m.h.n → σ2.m.h.f h.n = .row true 41 [.pointer (some ⟨b, 0, none⟩)] →
        σ2.t.get 0 = some E' → σ2.t.get 3 = some (.slice (some ⟨o', 0, none⟩) (i + 1) (i + 1)) → σ2.t.get 4 = some (.pointer (some ⟨h.n, 0, none⟩)) → ∃ j, j < l.length - i ∧ J18 h l h.n j σ2 := by
      intro σ2 x1 o' x2 x3 x4 x5 x6 x7 x8
      exact ⟨l.length - (i + 1), by omega, i + 1, E', bs ++ [b], some o', _, _, rfl, by omega, x1, by rw [hdr]; exact h3, hB', x2, by simpa using x3, x4, x5, x6, x7, x8⟩
    cases o with
    | none =>
      simp only at ho
      subst ho
      have hi0 : i = 0 := by simpa using hBl.symm
      subst hi0
      simp -implicitDefEqProofs [callQ, g0, g3, g4, opBuildSlice, hr1, opAppend, srcCells, maxA, hbn, hb1, b1, b2, f1, f2, f3]
      intro _
      refine nxt _ ?_ (H1.n + 1) ⟨by simp, ?_, ?_, ?_⟩ (by omega) ?_ ?_ (by simp) (by simp) (by simp)
      · exact ((hE2 _).newOf _).newOf _
      · simp [ptrC]
      · omega
      · simp
      · simp; omega
      · simp [f1, f2]
    | some bo =>
      simp only at ho
      obtain ⟨ho1, ho2, ho3⟩ := ho
      have hbo : ¬ bo = h.n := fun q => hob (by rw [q])
      have o1 : ¬ bo = H1.n := by omega
      have o2 : ¬ h.n = bo := fun q => hbo q.symm
      have o3 : ¬ b = bo := by omega
      obtain ⟨F, hF⟩ : ∃ F, F = bs.flatMap ptrC := ⟨_, rfl⟩
      have hFl : F.length = i := by have := flatA_len 1 (enc := ptrC) (fun _ => rfl) bs; rw [← hF] at this; omega
      rw [← hF] at ho1
      have e8 : F.take i = F := List.take_of_length_le (by omega)
      have hmx : (i + 1) * 8 ≤ 140737488355328 := by omega
      rw [hBl] at g3
      simp -implicitDefEqProofs [callQ, g0, g3, g4, opBuildSlice, hr1, opAppend, srcCells, maxA, hbn, hb1, b1, b2, f1, f2, f3, hbo, o1, o2, o3, ho1, hFl, e8, hmx]
      intro _
      refine nxt _ ?_ (H1.n + 1) ⟨by simp [hBl], ?_, ?_, ?_⟩ (by omega) ?_ ?_ (by simp) (by simp) (by simp)
      · exact ((((hE2 _).newOf _).setOf ho2 _).newOf _)
      · simp [ptrC, hF]
      · omega
      · simp
      · simp; omega
      · simp [f1, f2, o2]
end Go.Proofs.Flt
