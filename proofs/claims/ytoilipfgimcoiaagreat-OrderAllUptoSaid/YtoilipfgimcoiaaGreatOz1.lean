/- HlxE OrdE Ord2E PlE, joined. -/
import Derived.OrdersHeld
import Derived.Deep.Quiet
import Derived.StillTail
import Derived.RegionTactic
import Derived.Lib.Hide
import Derived.Deep.RegionHeld3
set_option linter.unusedVariables false
set_option linter.unusedSimpArgs false
namespace Go.Proofs.YtoilipfgimcoiaaGreat
open Go Go.RowKit
def plainBE (o : Oper) : Bool := match o.op with
 | .move _ | .assign _ | .fieldAddr .. | .indexAddr .. | .load .. | .binOp .. | .unOp .. | .extract .. | .field .. | .index .. | .build .. | .pick .. | .nilCheck _ | .convert .. | .slice .. | .makeFunc .. => true
 | .call { callee := .builtin .len, .. } => true
 | _ => false
section
variable {P : Program} {ops : Array Oper} {md : Region.Mode} {S : World → Prop} {Q : Exit → Act → World → Prop}
theorem value_vE {s : Sem Value} {w w' : World} {n : Next} (h : (do let r ← s; pure (Next.value r) : Sem Next).run P w = .ok n w') : ∃ u, n = .value u := by
 rw [Sem.run_bind] at h
 generalize s.run P w = r at h
 cases r with
 | ok v w1 => simp [Result.andThen] at h; exact ⟨_, h.1.symm⟩
 | halt x w1 => simp [Result.andThen] at h
theorem plain_valueE {o : Oper} {ev : Operand → Value} {w w' : World} {n : Next} (hp : plainBE o = true) (h : (execOp ev o).run P w = .ok n w') : ∃ u, n = .value u := by
 unfold plainBE at hp
 unfold execOp at h
 cases ho : o.op <;> rw [ho] at hp h <;> simp only [Bool.false_eq_true] at hp <;> dsimp only at h <;> try exact value_vE h
 · simp at h; exact ⟨_, h.1.symm⟩
 · simp at h; exact ⟨_, h.1.symm⟩
 · rename_i c a b
   rw [Sem.run_bind] at h
   generalize (asBool (ev c)).run P w = r at h
   cases r with
   | ok v w1 => simp [Result.andThen] at h; exact ⟨_, h.1.symm⟩
   | halt x w1 => simp [Result.andThen] at h
 · split at h
   · simp [runtimePanic] at h
   · simp [runtimePanic] at h
   · simp [runtimePanic] at h
   · split at h
     · simp [runtimePanic] at h
     · rw [Sem.run_bind] at h
       generalize Sem.run P program w = r at h
       cases r with
       | halt x w1 => simp [Result.andThen] at h
       | ok p w1 =>
         simp only [Result.andThen_ok] at h
         rw [Sem.run_bind] at h
         generalize Sem.run P (nilAhead _ _ _ _) w1 = r at h
         cases r with
         | halt x w2 => simp [Result.andThen] at h
         | ok v w2 =>
           simp only [Result.andThen_ok] at h
           split at h
           · simp [unsupported, Sem.run_bind, Result.andThen] at h
           · simp [Sem.run_bind, Result.andThen] at h; exact ⟨_, h.1.symm⟩
     · simp at h; exact ⟨_, h.1.symm⟩
   · simp at h; exact ⟨_, h.1.symm⟩
 · rename_i cl
   obtain ⟨callee, args, argTypes⟩ := cl
   cases callee <;> first | (simp at hp; done) | skip
   rename_i bi
   cases bi <;> first | (simp at hp; done) | skip
   simp only [resolve, invoke, builtin, Sem.run_bind, Sem.run_pure, Result.andThen_ok] at h
   generalize Sem.run P (Builtin.len_ argTypes o.type (Array.map ev args)) w = r at h
   cases r with
   | ok v w1 => simp [Result.andThen] at h; exact ⟨_, h.1.symm⟩
   | halt x w1 => simp [Result.andThen] at h
theorem yields_of_quietE {o : Oper} {a : Act} {v : Value} (hp : plainBE o = true) (hw : Region.wanted o (yielded ops a.tmps) = true) (h : ∀ w, S w → o.quietAt P a S w v) : YieldsIf P ops S o v a := by
 refine .inl ⟨hw, fun w hS => ?_⟩
 have h1 := h w hS
 unfold Oper.quietAt at h1
 cases hr : (execOp a.eval o).run P w with
 | halt x w' => rw [hr] at h1; exact absurd h1 (by simp [Oper.quietUpon])
 | ok n w' =>
   obtain ⟨u, rfl⟩ := plain_valueE hp hr
   rw [hr] at h1
   obtain ⟨rfl, rfl⟩ := h1
   rfl
end
end Go.Proofs.YtoilipfgimcoiaaGreat
namespace Go.Proofs.YtoilipfgimcoiaaGreat
open Go Go.RowKit
section
variable {P : Program} {ops : Array Oper} {md : Region.Mode} {S : World → Prop} {Q : Exit → Act → World → Prop}
def wpAnyZE (P : Program) (md : Region.Mode) (ops : Array Oper) (Q : Exit → Act → World → Prop) (S : World → Prop) (z : Nat) : Nat → Array Bool → Act → World → Prop
 | 0, listed, a, w => Region.ready md ops listed = [] ∧ Q .normal a w
 | fuel + 1, listed, a, w =>
   (Region.ready md ops listed = [] → Q .normal a w) ∧
   ∀ i ∈ Region.ready md ops listed, wpOp P ops Q i (fun a' w' => (i = z ∨ S w') ∧ wpAnyZE P md ops Q S z fuel (listed.setIfInBounds i true) a' w') a w
theorem wpAny_of_zE {z : Nat} : ∀ (fuel : Nat) (listed : Array Bool) (a : Act) (w : World), wpAnyZE P md ops Q S z fuel listed a w → wpAny P md ops Q fuel listed a w
 | 0, _, _, _, h => h
 | fuel + 1, _, _, _, h => ⟨h.1, fun i hi => wpOp_mono (fun a' w' h' => wpAny_of_zE fuel _ a' w' h'.2) (h.2 i hi)⟩
theorem wpAnyZ_firstE {i z : Nat} {oi : Oper} {v : Value} (hi : ops[i]? = some oi) (hz : ops.size ≤ z ∨ Region.waitsFor md ops z i = true) (hsel : ∀ (j : Nat) (o : Oper) cs b, ops[j]? = some o → o.op ≠ .select cs b)
   (hQ : ∀ c a w, Q (.panic c) (a.put oi.dst v) w → Q (.panic c) a w) :
   ∀ (fuel : Nat) (listed : Array Bool) (a : Act) (w : World),
     (∀ j oj, ops[j]? = some oj → j ≠ i → listed.getD j true = false → (∀ e ∈ oj.after, Region.binds md e = true → e.on ≠ i) → oi.apart ops oj = true) →
     i ∈ Region.ready md ops listed → YieldsIf P ops S oi v a → S w →
     wpAnyZE P md ops Q S z fuel (listed.setIfInBounds i true) (a.put oi.dst v) w → wpAnyZE P md ops Q S z (fuel + 1) listed a w := by
 intro fuel
 induction fuel with
 | zero =>
   intro listed a w _ hr hy hS H
   refine ⟨fun h => (by rw [h] at hr; cases hr), fun j hj => ?_⟩
   by_cases hji : j = i
   · subst hji; exact hy.wpOp hi hS ⟨.inr hS, H⟩
   · have := ready_mono hj hji
     rw [H.1] at this
     cases this
 | succ fuel ih =>
   intro listed a w hfree hr hy hS H
   refine ⟨fun h => (by rw [h] at hr; cases hr), fun j hj => ?_⟩
   by_cases hji : j = i
   · subst hji; exact hy.wpOp hi hS ⟨.inr hS, H⟩
   · have h1 := H.2 j (ready_mono hj hji)
     obtain ⟨hjun, oj, hoj, hall⟩ := mem_ready.1 hj
     have hnot : ∀ e ∈ oj.after, Region.binds md e = true → e.on ≠ i := fun e he hb heq => by
       have h1 := hall e he hb
       have h0 := (mem_ready.1 hr).1
       rw [heq] at h1
       rcases Nat.lt_or_ge i listed.size with h' | h'
       · simp [h'] at h0 h1; rw [h0] at h1; cases h1
       · simp [Array.getElem?_eq_none h'] at h1
     have hjz : j ≠ z := fun e => by
       subst e
       rcases hz with hz | hz
       · have := (Array.getElem?_eq_some_iff.1 hoj).1; omega
       · obtain ⟨o', ho', e, he, hb, hon⟩ := Region.waitsFor_spec hz
         obtain rfl : o' = oj := Option.some.inj (ho'.symm.trans hoj)
         exact hnot e he hb hon
     have h2 := wpOp_putIf hoj (hfree j oj hoj hji hjun hnot) (fun cs b => hsel i oi cs b hi) (fun cs b => hsel j oj cs b hoj) hQ hy h1
     have hfree' : ∀ k ok, ops[k]? = some ok → k ≠ i → (listed.setIfInBounds j true).getD k true = false →
         (∀ e ∈ ok.after, Region.binds md e = true → e.on ≠ i) → oi.apart ops ok = true := fun k ok hk hki hun hno => by
       refine hfree k ok hk hki ?_ hno
       by_cases hjk : j = k
       · subst hjk; exact hjun
       · rw [getD_set_ne true hjk] at hun; exact hun
     refine wpOp_mono (fun a' w' h3 => ⟨h3.2.1, ih (listed.setIfInBounds j true) a' w' hfree' (ready_mono hr (Ne.symm hji)) h3.1 (h3.2.1.resolve_left hjz) ?_⟩) h2
     rw [Array.setIfInBounds_comm _ _ hji]
     exact h3.2.2
def pickE : List Oper → Nat → List Oper
 | [], _ => []
 | o :: _, 0 => [o]
 | _ :: r, i + 1 => pickE r i
def picksE (l : List Oper) : List Nat → List Oper
 | [] => []
 | i :: r => pickE l i ++ picksE l r
theorem pick_ofE : ∀ {l : List Oper} {i : Nat} {o : Oper}, l[i]? = some o → pickE l i = [o]
 | [], i, o, h => by simp at h
 | x :: r, 0, o, h => by simp at h; rw [pickE, h]
 | x :: r, i + 1, o, h => by rw [pickE]; exact pick_ofE (by simpa using h)
def runBE (md : Region.Mode) (ops : Array Oper) (z : Nat) : Array Bool → List Nat → Option (Array Bool)
 | L, [] => some L
 | L, i :: r => if Region.free md ops L i && (Region.ready md ops L).contains i && decide (i < ops.size) && (ops[i]?.map plainBE == some true) && (decide (ops.size ≤ z) || Region.waitsFor md ops z i) then runBE md ops z (L.setIfInBounds i true) r else none
def segBE (md : Region.Mode) (ops : Array Oper) (z : Nat) (last : List Nat) : Array Bool → List (List Nat × Nat) → Bool
 | L, [] => match runBE md ops z L last with
   | some L' => decide (Region.ready md ops L' = [])
   | none => false
 | L, (is, i) :: r => match runBE md ops z L is with
   | some L' => decide (Region.ready md ops L' = [i]) && decide (i < ops.size) && (decide (i = z → r = [] ∧ last = [])) && segBE md ops z last (L'.setIfInBounds i true) r
   | none => false
def ordBE (md : Region.Mode) (ops : Array Oper) (z : Nat) (segs : List (List Nat × Nat)) (last : List Nat) : Bool := Region.noSelect ops && segBE md ops z last (Array.replicate ops.size false) segs
def woDE (P : Program) (l : List Oper) (z : Nat) (S : World → Prop) (Q : Exit → Act → World → Prop) (last : List Nat) : List (List Nat × Nat) → Act → World → Prop
 | [], a, w => wpQuiet P l.toArray S (fun a' => Q .normal a' w) (picksE l last) a
 | (is, i) :: r, a, w => wpQuiet P l.toArray S (fun a' => ∀ o, pickE l i = [o] → if Region.wanted o (yielded l.toArray a'.tmps) = true then o.wp P a' w (fun a2 w2 => (i = z ∨ S w2) ∧ woDE P l z S Q last r a2 w2) Q else woDE P l z S Q last r (a'.put o.dst undef) w) (picksE l is) a
structure WOE (P : Program) (l : List Oper) (z : Nat) (S : World → Prop) (Q : Exit → Act → World → Prop) (last : List Nat) (segs : List (List Nat × Nat)) (a : Act) (w : World) : Prop where
 out : woDE P l z S Q last segs a w
variable {l : List Oper} {z : Nat} {last : List Nat} {w : World} {a : Act}
theorem run_okE (hsel : Region.noSelect l.toArray = true) (hQ : ∀ c a d v w, Q (.panic c) (Act.put a d v) w → Q (.panic c) a w) {K : Act → Prop} {fuel : Nat} :
   ∀ (is : List Nat) (L L' : Array Bool) (a : Act), (S w ∨ is = []) → runBE md l.toArray z L is = some L' → (∀ a', K a' → wpAnyZE P md l.toArray Q S z fuel L' a' w) → wpQuiet P l.toArray S K (picksE l is) a → wpAnyZE P md l.toArray Q S z (is.length + fuel) L a w
 | [], L, L', a, _, hb, hK, h => by
   cases hb
   simpa using hK a h
 | i :: r, L, L', a, hS', hb, hK, h => by
   have hS : S w := hS'.resolve_right (by simp)
   unfold runBE at hb
   split at hb
   · rename_i hc
     simp only [Bool.and_eq_true, decide_eq_true_eq, beq_iff_eq] at hc
     obtain ⟨⟨⟨⟨h1, h2⟩, h3⟩, h4⟩, h5⟩ := hc
     have h5' : l.toArray.size ≤ z ∨ Region.waitsFor md l.toArray z i = true := by simpa using h5
     have ho : l.toArray[i]? = some l.toArray[i] := Array.getElem?_eq_getElem h3
     generalize l.toArray[i] = o at ho
     have hol : l[i]? = some o := by simpa using ho
     rw [picksE, pick_ofE hol, List.singleton_append] at h
     rw [ho] at h4
     have h4' : plainBE o = true := by simpa using h4
     have key : ∃ v, YieldsIf P l.toArray S o v a ∧ wpQuiet P l.toArray S K (picksE l r) (a.put o.dst v) := by
       unfold wpQuiet at h
       by_cases hw : Region.wanted o (yielded l.toArray a.tmps) = true
       · rw [if_pos hw] at h
         obtain ⟨v, e1, e2⟩ := h
         exact ⟨v, yields_of_quietE h4' hw e1, e2⟩
       · rw [if_neg hw] at h
         exact ⟨undef, .inr ⟨by simpa using hw, rfl⟩, h⟩
     obtain ⟨v, hy, hr⟩ := key
     have := wpAnyZ_firstE (z := z) ho h5' (Region.noSelect_spec hsel) (fun c a w => hQ c a _ _ w) (r.length + fuel) L a w (Region.free_spec ho h1) (by simpa using h2) hy hS (run_okE hsel hQ r _ L' _ (.inl hS) hb hK hr)
     rw [show (i :: r).length + fuel = r.length + fuel + 1 by simp; omega]
     exact this
   · cases hb
def segLenE : List (List Nat × Nat) → Nat
 | [] => 0
 | (is, _) :: r => is.length + 1 + segLenE r
theorem seg_okE (hsel : Region.noSelect l.toArray = true) (hQ : ∀ c a d v w, Q (.panic c) (Act.put a d v) w → Q (.panic c) a w) :
   ∀ (segs : List (List Nat × Nat)) (L : Array Bool) (a : Act) (w : World), segBE md l.toArray z last L segs = true → (S w ∨ (segs = [] ∧ last = [])) → woDE P l z S Q last segs a w → wpAnyZE P md l.toArray Q S z (segLenE segs + last.length) L a w
 | [], L, a, w, hb, hS, h => by
   unfold segBE at hb
   cases hr : runBE md l.toArray z L last with
   | none => rw [hr] at hb; simp at hb
   | some L' =>
     rw [hr] at hb
     have hb' : Region.ready md l.toArray L' = [] := by simpa using hb
     have := run_okE (fuel := 0) hsel hQ last L L' a (hS.imp id (·.2)) hr (K := fun a' => Q .normal a' w) (fun a' h' => ⟨hb', h'⟩) h
     rwa [segLenE, Nat.zero_add]
 | (is, i) :: r, L, a, w, hb, hS', h => by
   have hS : S w := hS'.resolve_right (by simp)
   unfold segBE at hb
   cases hr : runBE md l.toArray z L is with
   | none => rw [hr] at hb; simp at hb
   | some L' =>
     rw [hr] at hb
     simp only [Bool.and_eq_true, decide_eq_true_eq] at hb
     obtain ⟨⟨⟨b1, b2⟩, b4⟩, b3⟩ := hb
     have b4' : i = z → r = [] ∧ last = [] := by simpa using b4
     have ho : l.toArray[i]? = some l.toArray[i] := Array.getElem?_eq_getElem b2
     generalize l.toArray[i] = o at ho
     have hol : l[i]? = some o := by simpa using ho
     have ih := fun a' w' => seg_okE hsel hQ r (L'.setIfInBounds i true) a' w' b3
     have := run_okE (fuel := segLenE r + last.length + 1) hsel hQ is L L' a (.inl hS) hr (fun a' h' => (by
       have h2 := h' o (pick_ofE hol)
       refine ⟨fun h0 => (by rw [b1] at h0; cases h0), fun j hj => ?_⟩
       rw [b1] at hj
       obtain rfl : j = i := by simpa using hj
       unfold wpOp
       simp only [ho]
       split
       · rename_i hw
         rw [if_pos hw] at h2
         exact .inl (Oper.wp_mono (fun a3 w3 h3 => ⟨h3.1, ih a3 w3 (h3.1.elim (fun e => .inr (b4' e)) .inl) h3.2⟩) h2)
       · rename_i hw
         rw [if_neg hw] at h2
         exact ⟨.inr hS, ih _ _ (.inl hS) h2⟩)) h
     rw [show segLenE ((is, i) :: r) + last.length = is.length + (segLenE r + last.length + 1) by rw [segLenE]; omega]
     exact this
theorem wp_region_ordzE {id : Nat} (z : Nat) (segs : List (List Nat × Nat)) (last : List Nat) (S : World → Prop) (hm : P.follows .mixedOrders = true) (hB : ordBE .any l.toArray z segs last = true) (hn : segLenE segs + last.length = l.length)
   (hS : S w.drew) (h : WOE P l z S (NoPanic Q) last segs a w.drew) : (Code.region id l.toArray true).wp P Q a w := by
 unfold ordBE at hB
 simp only [Bool.and_eq_true] at hB
 refine wp_region_noPanic (wp_region_any hm (wpAny_of_zE (S := S) (z := z) _ _ _ _ ?_))
 have := seg_okE (Q := NoPanic Q) hB.1 (fun _ _ _ _ _ h => h) segs _ a _ hB.2 (.inl hS) h.out
 rw [hn] at this
 simpa using this
end
end Go.Proofs.YtoilipfgimcoiaaGreat
namespace Go.Proofs.YtoilipfgimcoiaaGreat
open Go Go.RowKit
section
variable {P : Program} {ops : Array Oper} {md : Region.Mode} {S : World → Prop} {Q : Exit → Act → World → Prop}
def ClosedE (md : Region.Mode) (ops : Array Oper) (listed : Array Bool) : Prop := ∀ k ok, ops[k]? = some ok → listed.getD k false = true → ∀ e ∈ ok.after, Region.binds md e = true → listed.getD e.on false = true
theorem ClosedE.set {listed : Array Bool} (h : ClosedE md ops listed) {j : Nat} (hj : j ∈ Region.ready md ops listed) : ClosedE md ops (listed.setIfInBounds j true) := fun k ok hk hl e he hb => by
 by_cases hjk : j = k
 · subst hjk
   obtain ⟨_, oj, hoj, hall⟩ := mem_ready.1 hj
   obtain rfl : oj = ok := Option.some.inj (hoj.symm.trans hk)
   exact getD_set_true (hall e he hb)
 · rw [getD_set_ne false hjk] at hl
   exact getD_set_true (h k ok hk hl e he hb)
theorem closed_newE (n : Nat) : ClosedE md ops (Array.replicate n false) := fun k ok _ hl => by rw [getD_replicate_false] at hl; cases hl
def waits2E (md : Region.Mode) (ops : Array Oper) (z i : Nat) : Bool := Region.waitsFor md ops z i || (List.range ops.size).any fun k => Region.waitsFor md ops z k && Region.waitsFor md ops k i
theorem waits2_notE {z i : Nat} {listed : Array Bool} (hz : waits2E md ops z i = true) (hc : ClosedE md ops listed) (hi : listed.getD i true = false) : z ∉ Region.ready md ops listed := fun hj => by
 obtain ⟨_, oj, hoj, hall⟩ := mem_ready.1 hj
 unfold waits2E at hz
 simp only [Bool.or_eq_true, List.any_eq_true, Bool.and_eq_true] at hz
 have hi' := getD_both hi
 rcases hz with hz | ⟨k, _, h1, h2⟩
 · obtain ⟨o', ho', e, he, hb, hon⟩ := Region.waitsFor_spec hz
   obtain rfl : o' = oj := Option.some.inj (ho'.symm.trans hoj)
   have := hall e he hb
   rw [hon, hi'] at this; cases this
 · obtain ⟨o', ho', e, he, hb, hon⟩ := Region.waitsFor_spec h1
   obtain rfl : o' = oj := Option.some.inj (ho'.symm.trans hoj)
   have hk := hall e he hb
   rw [hon] at hk
   obtain ⟨ok, hok, e2, he2, hb2, hon2⟩ := Region.waitsFor_spec h2
   have := hc k ok hok hk e2 he2 hb2
   rw [hon2, hi'] at this; cases this
theorem wpAnyZ_first2E {i z : Nat} {oi : Oper} {v : Value} (hi : ops[i]? = some oi) (hz : ops.size ≤ z ∨ waits2E md ops z i = true) (hsel : ∀ (j : Nat) (o : Oper) cs b, ops[j]? = some o → o.op ≠ .select cs b)
   (hQ : ∀ c a w, Q (.panic c) (a.put oi.dst v) w → Q (.panic c) a w) :
   ∀ (fuel : Nat) (listed : Array Bool) (a : Act) (w : World), ClosedE md ops listed →
     (∀ j oj, ops[j]? = some oj → j ≠ i → listed.getD j true = false → (∀ e ∈ oj.after, Region.binds md e = true → e.on ≠ i) → oi.apart ops oj = true) →
     i ∈ Region.ready md ops listed → YieldsIf P ops S oi v a → S w →
     wpAnyZE P md ops Q S z fuel (listed.setIfInBounds i true) (a.put oi.dst v) w → wpAnyZE P md ops Q S z (fuel + 1) listed a w := by
 intro fuel
 induction fuel with
 | zero =>
   intro listed a w _ _ hr hy hS H
   refine ⟨fun h => (by rw [h] at hr; cases hr), fun j hj => ?_⟩
   by_cases hji : j = i
   · subst hji; exact hy.wpOp hi hS ⟨.inr hS, H⟩
   · have := ready_mono hj hji
     rw [H.1] at this
     cases this
 | succ fuel ih =>
   intro listed a w hcl hfree hr hy hS H
   refine ⟨fun h => (by rw [h] at hr; cases hr), fun j hj => ?_⟩
   by_cases hji : j = i
   · subst hji; exact hy.wpOp hi hS ⟨.inr hS, H⟩
   · have h1 := H.2 j (ready_mono hj hji)
     obtain ⟨hjun, oj, hoj, hall⟩ := mem_ready.1 hj
     have hnot : ∀ e ∈ oj.after, Region.binds md e = true → e.on ≠ i := fun e he hb heq => by
       have h1 := hall e he hb
       rw [heq, getD_both (mem_ready.1 hr).1] at h1; cases h1
     have hjz : j ≠ z := fun e => by
       subst e
       rcases hz with hz | hz
       · have := (Array.getElem?_eq_some_iff.1 hoj).1; omega
       · exact waits2_notE hz hcl (mem_ready.1 hr).1 hj
     have h2 := wpOp_putIf hoj (hfree j oj hoj hji hjun hnot) (fun cs b => hsel i oi cs b hi) (fun cs b => hsel j oj cs b hoj) hQ hy h1
     have hfree' : ∀ k ok, ops[k]? = some ok → k ≠ i → (listed.setIfInBounds j true).getD k true = false →
         (∀ e ∈ ok.after, Region.binds md e = true → e.on ≠ i) → oi.apart ops ok = true := fun k ok hk hki hun hno => by
       refine hfree k ok hk hki ?_ hno
       by_cases hjk : j = k
       · subst hjk; exact hjun
       · rw [getD_set_ne true hjk] at hun; exact hun
     refine wpOp_mono (fun a' w' h3 => ⟨h3.2.1, ih (listed.setIfInBounds j true) a' w' (hcl.set hj) hfree' (ready_mono hr (Ne.symm hji)) h3.1 (h3.2.1.resolve_left hjz) ?_⟩) h2
     rw [Array.setIfInBounds_comm _ _ hji]
     exact h3.2.2
def runB2E (md : Region.Mode) (ops : Array Oper) (z : Nat) : Array Bool → List Nat → Option (Array Bool)
 | L, [] => some L
 | L, i :: r => if Region.free md ops L i && (Region.ready md ops L).contains i && decide (i < ops.size) && (ops[i]?.map plainBE == some true) && waits2E md ops z i then runB2E md ops z (L.setIfInBounds i true) r else none
def segB2E (md : Region.Mode) (ops : Array Oper) (z : Nat) (last : List Nat) : Array Bool → List (List Nat × Nat) → Bool
 | L, [] => match runB2E md ops z L last with
   | some L' => decide (Region.ready md ops L' = [])
   | none => false
 | L, (is, i) :: r => match runB2E md ops z L is with
   | some L' => decide (Region.ready md ops L' = [i]) && decide (i < ops.size) && (decide (i = z → r = [] ∧ last = [])) && segB2E md ops z last (L'.setIfInBounds i true) r
   | none => false
def ordB2E (md : Region.Mode) (ops : Array Oper) (z : Nat) (segs : List (List Nat × Nat)) (last : List Nat) : Bool := Region.noSelect ops && segB2E md ops z last (Array.replicate ops.size false) segs
variable {l : List Oper} {z : Nat} {last : List Nat} {w : World} {a : Act}
theorem run_ok2E (hsel : Region.noSelect l.toArray = true) (hQ : ∀ c a d v w, Q (.panic c) (Act.put a d v) w → Q (.panic c) a w) {K : Act → Prop} {fuel : Nat} :
   ∀ (is : List Nat) (L L' : Array Bool) (a : Act), ClosedE md l.toArray L → (S w ∨ is = []) → runB2E md l.toArray z L is = some L' → (∀ a', ClosedE md l.toArray L' → K a' → wpAnyZE P md l.toArray Q S z fuel L' a' w) → wpQuiet P l.toArray S K (picksE l is) a → wpAnyZE P md l.toArray Q S z (is.length + fuel) L a w
 | [], L, L', a, hcl, _, hb, hK, h => by
   cases hb
   simpa using hK a hcl h
 | i :: r, L, L', a, hcl, hS', hb, hK, h => by
   have hS : S w := hS'.resolve_right (by simp)
   unfold runB2E at hb
   split at hb
   · rename_i hc
     simp only [Bool.and_eq_true, decide_eq_true_eq, beq_iff_eq] at hc
     obtain ⟨⟨⟨⟨h1, h2⟩, h3⟩, h4⟩, h5⟩ := hc
     have ho : l.toArray[i]? = some l.toArray[i] := Array.getElem?_eq_getElem h3
     generalize l.toArray[i] = o at ho
     have hol : l[i]? = some o := by simpa using ho
     rw [picksE, pick_ofE hol, List.singleton_append] at h
     rw [ho] at h4
     have h4' : plainBE o = true := by simpa using h4
     have key : ∃ v, YieldsIf P l.toArray S o v a ∧ wpQuiet P l.toArray S K (picksE l r) (a.put o.dst v) := by
       unfold wpQuiet at h
       by_cases hw : Region.wanted o (yielded l.toArray a.tmps) = true
       · rw [if_pos hw] at h
         obtain ⟨v, e1, e2⟩ := h
         exact ⟨v, yields_of_quietE h4' hw e1, e2⟩
       · rw [if_neg hw] at h
         exact ⟨undef, .inr ⟨by simpa using hw, rfl⟩, h⟩
     obtain ⟨v, hy, hr⟩ := key
     have hri : i ∈ Region.ready md l.toArray L := by simpa using h2
     have := wpAnyZ_first2E (z := z) ho (.inr h5) (Region.noSelect_spec hsel) (fun c a w => hQ c a _ _ w) (r.length + fuel) L a w hcl (Region.free_spec ho h1) hri hy hS (run_ok2E hsel hQ r _ L' _ (hcl.set hri) (.inl hS) hb hK hr)
     rw [show (i :: r).length + fuel = r.length + fuel + 1 by simp; omega]
     exact this
   · cases hb
theorem seg_ok2E (hsel : Region.noSelect l.toArray = true) (hQ : ∀ c a d v w, Q (.panic c) (Act.put a d v) w → Q (.panic c) a w) :
   ∀ (segs : List (List Nat × Nat)) (L : Array Bool) (a : Act) (w : World), ClosedE md l.toArray L → segB2E md l.toArray z last L segs = true → (S w ∨ (segs = [] ∧ last = [])) → woDE P l z S Q last segs a w → wpAnyZE P md l.toArray Q S z (segLenE segs + last.length) L a w
 | [], L, a, w, hcl, hb, hS, h => by
   unfold segB2E at hb
   cases hr : runB2E md l.toArray z L last with
   | none => rw [hr] at hb; simp at hb
   | some L' =>
     rw [hr] at hb
     have hb' : Region.ready md l.toArray L' = [] := by simpa using hb
     have := run_ok2E (fuel := 0) hsel hQ last L L' a hcl (hS.imp id (·.2)) hr (K := fun a' => Q .normal a' w) (fun a' _ h' => ⟨hb', h'⟩) h
     rwa [segLenE, Nat.zero_add]
 | (is, i) :: r, L, a, w, hcl, hb, hS', h => by
   have hS : S w := hS'.resolve_right (by simp)
   unfold segB2E at hb
   cases hr : runB2E md l.toArray z L is with
   | none => rw [hr] at hb; simp at hb
   | some L' =>
     rw [hr] at hb
     simp only [Bool.and_eq_true, decide_eq_true_eq] at hb
     obtain ⟨⟨⟨b1, b2⟩, b4⟩, b3⟩ := hb
     have b4' : i = z → r = [] ∧ last = [] := by simpa using b4
     have ho : l.toArray[i]? = some l.toArray[i] := Array.getElem?_eq_getElem b2
     generalize l.toArray[i] = o at ho
     have hol : l[i]? = some o := by simpa using ho
     have ih := fun a' w' hc' => seg_ok2E hsel hQ r (L'.setIfInBounds i true) a' w' hc' b3
     have := run_ok2E (fuel := segLenE r + last.length + 1) hsel hQ is L L' a hcl (.inl hS) hr (fun a' hcl' h' => (by
       have h2 := h' o (pick_ofE hol)
       have hri : i ∈ Region.ready md l.toArray L' := by rw [b1]; simp
       refine ⟨fun h0 => (by rw [b1] at h0; cases h0), fun j hj => ?_⟩
       rw [b1] at hj
       obtain rfl : j = i := by simpa using hj
       unfold wpOp
       simp only [ho]
       split
       · rename_i hw
         rw [if_pos hw] at h2
         exact .inl (Oper.wp_mono (fun a3 w3 h3 => ⟨h3.1, ih a3 w3 (hcl'.set hri) (h3.1.elim (fun e => .inr (b4' e)) .inl) h3.2⟩) h2)
       · rename_i hw
         rw [if_neg hw] at h2
         exact ⟨.inr hS, ih _ _ (hcl'.set hri) (.inl hS) h2⟩)) h
     rw [show segLenE ((is, i) :: r) + last.length = is.length + (segLenE r + last.length + 1) by rw [segLenE]; omega]
     exact this
theorem wp_region_ordtE {id : Nat} (z : Nat) (segs : List (List Nat × Nat)) (last : List Nat) (S : World → Prop) (hm : P.follows .mixedOrders = true) (hB : ordB2E .any l.toArray z segs last = true) (hn : segLenE segs + last.length = l.length)
   (hS : S w.drew) (h : WOE P l z S (NoPanic Q) last segs a w.drew) : (Code.region id l.toArray true).wp P Q a w := by
 unfold ordB2E at hB
 simp only [Bool.and_eq_true] at hB
 refine wp_region_noPanic (wp_region_any hm (wpAny_of_zE (S := S) (z := z) _ _ _ _ ?_))
 have := seg_ok2E (Q := NoPanic Q) hB.1 (fun _ _ _ _ _ h => h) segs _ a _ (closed_newE _) hB.2 (.inl hS) h.out
 rw [hn] at this
 simpa using this
end
end Go.Proofs.YtoilipfgimcoiaaGreat
namespace Go.Proofs.YtoilipfgimcoiaaGreat
open Go Go.RowKit
inductive Pl where
 | stop (last : List Nat)
 | one (is : List Nat) (i : Nat) (r : Pl)
 | two (is : List Nat) (i : Nat) (r : Pl) (j : Nat) (q : Pl)
 | three (is : List Nat) (i : Nat) (r : Pl) (j : Nat) (q : Pl) (k : Nat) (t : Pl)
section
variable {P : Program} {ops : Array Oper} {md : Region.Mode} {S : World → Prop} {Q : Exit → Act → World → Prop}
def waitsTE (md : Region.Mode) (ops : Array Oper) : Nat → Nat → Nat → Bool
 | 0, z, i => Region.waitsFor md ops z i
 | n + 1, z, i => Region.waitsFor md ops z i || (List.range ops.size).any fun k => Region.waitsFor md ops z k && waitsTE md ops n k i
theorem waitsT_unl {i : Nat} {listed : Array Bool} (hc : ClosedE md ops listed) (hi : listed.getD i true = false) : ∀ (n z : Nat), waitsTE md ops n z i = true → listed.getD z false = false := by
 have one : ∀ z m, Region.waitsFor md ops z m = true → listed.getD m false = false → listed.getD z false = false := fun z m hw hm => by
   cases hz : listed.getD z false with
   | false => rfl
   | true =>
     obtain ⟨o, ho, e, he, hb, hon⟩ := Region.waitsFor_spec hw
     have := hc z o ho hz e he hb
     rw [hon, hm] at this; cases this
 have hi' := getD_both hi
 intro n
 induction n with
 | zero => intro z h; exact one z i h hi'
 | succ n ih =>
   intro z h
   unfold waitsTE at h
   simp only [Bool.or_eq_true, List.any_eq_true, Bool.and_eq_true] at h
   rcases h with h | ⟨k, _, h1, h2⟩
   · exact one z i h hi'
   · exact one z k h1 (ih k h2)
theorem waitsT_notE {n z i : Nat} {listed : Array Bool} (hz : waitsTE md ops n z i = true) (hc : ClosedE md ops listed) (hi : listed.getD i true = false) : z ∉ Region.ready md ops listed := fun hj => by
 obtain ⟨_, oj, hoj, hall⟩ := mem_ready.1 hj
 have one : ∀ m, Region.waitsFor md ops z m = true → listed.getD m false = false → False := fun m hw hm => by
   obtain ⟨o', ho', e, he, hb, hon⟩ := Region.waitsFor_spec hw
   obtain rfl : o' = oj := Option.some.inj (ho'.symm.trans hoj)
   have := hall e he hb
   rw [hon, hm] at this; cases this
 cases n with
 | zero => exact one i hz (getD_both hi)
 | succ n =>
   unfold waitsTE at hz
   simp only [Bool.or_eq_true, List.any_eq_true, Bool.and_eq_true] at hz
   rcases hz with h | ⟨k, _, h1, h2⟩
   · exact one i h (getD_both hi)
   · exact one k h1 (waitsT_unl hc hi n k h2)
theorem wpAnyZ_firstTE {n i z : Nat} {oi : Oper} {v : Value} (hi : ops[i]? = some oi) (hz : ops.size ≤ z ∨ waitsTE md ops n z i = true) (hsel : ∀ (j : Nat) (o : Oper) cs b, ops[j]? = some o → o.op ≠ .select cs b)
   (hQ : ∀ c a w, Q (.panic c) (a.put oi.dst v) w → Q (.panic c) a w) :
   ∀ (fuel : Nat) (listed : Array Bool) (a : Act) (w : World), ClosedE md ops listed →
     (∀ j oj, ops[j]? = some oj → j ≠ i → listed.getD j true = false → (∀ e ∈ oj.after, Region.binds md e = true → e.on ≠ i) → oi.apart ops oj = true) →
     i ∈ Region.ready md ops listed → YieldsIf P ops S oi v a → S w →
     wpAnyZE P md ops Q S z fuel (listed.setIfInBounds i true) (a.put oi.dst v) w → wpAnyZE P md ops Q S z (fuel + 1) listed a w := by
 intro fuel
 induction fuel with
 | zero =>
   intro listed a w _ _ hr hy hS H
   refine ⟨fun h => (by rw [h] at hr; cases hr), fun j hj => ?_⟩
   by_cases hji : j = i
   · subst hji; exact hy.wpOp hi hS ⟨.inr hS, H⟩
   · have := ready_mono hj hji
     rw [H.1] at this
     cases this
 | succ fuel ih =>
   intro listed a w hcl hfree hr hy hS H
   refine ⟨fun h => (by rw [h] at hr; cases hr), fun j hj => ?_⟩
   by_cases hji : j = i
   · subst hji; exact hy.wpOp hi hS ⟨.inr hS, H⟩
   · have h1 := H.2 j (ready_mono hj hji)
     obtain ⟨hjun, oj, hoj, hall⟩ := mem_ready.1 hj
     have hnot : ∀ e ∈ oj.after, Region.binds md e = true → e.on ≠ i := fun e he hb heq => by
       have h1 := hall e he hb
       rw [heq, getD_both (mem_ready.1 hr).1] at h1; cases h1
     have hjz : j ≠ z := fun e => by
       subst e
       rcases hz with hz | hz
       · have := (Array.getElem?_eq_some_iff.1 hoj).1; omega
       · exact waitsT_notE hz hcl (mem_ready.1 hr).1 hj
     have h2 := wpOp_putIf hoj (hfree j oj hoj hji hjun hnot) (fun cs b => hsel i oi cs b hi) (fun cs b => hsel j oj cs b hoj) hQ hy h1
     have hfree' : ∀ k ok, ops[k]? = some ok → k ≠ i → (listed.setIfInBounds j true).getD k true = false →
         (∀ e ∈ ok.after, Region.binds md e = true → e.on ≠ i) → oi.apart ops ok = true := fun k ok hk hki hun hno => by
       refine hfree k ok hk hki ?_ hno
       by_cases hjk : j = k
       · subst hjk; exact hjun
       · rw [getD_set_ne true hjk] at hun; exact hun
     refine wpOp_mono (fun a' w' h3 => ⟨h3.2.1, ih (listed.setIfInBounds j true) a' w' (hcl.set hj) hfree' (ready_mono hr (Ne.symm hji)) h3.1 (h3.2.1.resolve_left hjz) ?_⟩) h2
     rw [Array.setIfInBounds_comm _ _ hji]
     exact h3.2.2
def runB3E (md : Region.Mode) (ops : Array Oper) (z : Nat) : Array Bool → List Nat → Option (Array Bool)
 | L, [] => some L
 | L, i :: r => if Region.free md ops L i && (Region.ready md ops L).contains i && decide (i < ops.size) && (ops[i]?.map plainBE == some true) && (decide (ops.size ≤ z) || waitsTE md ops 4 z i) then runB3E md ops z (L.setIfInBounds i true) r else none
def isStop : Pl → Bool
 | .stop [] => true
 | _ => false
def plB (md : Region.Mode) (ops : Array Oper) (z : Nat) : Nat → Array Bool → Pl → Bool
 | n, L, .stop last => match runB3E md ops z L last with
   | some L' => decide (Region.ready md ops L' = []) && decide (n = last.length)
   | none => false
 | n, L, .one is i r => match runB3E md ops z L is with
   | some L' => decide (Region.ready md ops L' = [i]) && decide (i < ops.size) && (decide (i ≠ z) || isStop r) && decide (is.length + 1 ≤ n) && plB md ops z (n - (is.length + 1)) (L'.setIfInBounds i true) r
   | none => false
 | n, L, .two is i r j q => match runB3E md ops z L is with
   | some L' => decide (Region.ready md ops L' = [i, j]) && decide (i < ops.size) && decide (j < ops.size) && decide (i ≠ z) && decide (j ≠ z) && decide (is.length + 1 ≤ n) && plB md ops z (n - (is.length + 1)) (L'.setIfInBounds i true) r && plB md ops z (n - (is.length + 1)) (L'.setIfInBounds j true) q
   | none => false
 | n, L, .three is i r j q k t => match runB3E md ops z L is with
   | some L' => decide (Region.ready md ops L' = [i, j, k]) && decide (i < ops.size) && decide (j < ops.size) && decide (k < ops.size) && decide (i ≠ z) && decide (j ≠ z) && decide (k ≠ z) && decide (is.length + 1 ≤ n) && plB md ops z (n - (is.length + 1)) (L'.setIfInBounds i true) r && plB md ops z (n - (is.length + 1)) (L'.setIfInBounds j true) q && plB md ops z (n - (is.length + 1)) (L'.setIfInBounds k true) t
   | none => false
def plOkE (l : List Oper) (z : Nat) (p : Pl) : Bool := Region.noSelect l.toArray && plB .any l.toArray z l.length (Array.replicate l.toArray.size false) p
def plPlain (l : List Oper) : Pl → Bool
 | .stop last => (picksE l last).all plainBE
 | .one is _ r => (picksE l is).all plainBE && plPlain l r
 | .two is _ r _ q => (picksE l is).all plainBE && plPlain l r && plPlain l q
 | .three is _ r _ q _ t => (picksE l is).all plainBE && plPlain l r && plPlain l q && plPlain l t
def opPE (P : Program) (l : List Oper) (z : Nat) (S : World → Prop) (Q : Exit → Act → World → Prop) (i : Nat) (w : World) (K : Act → World → Prop) (a' : Act) : Prop :=
 ∀ o, pickE l i = [o] → if Region.wanted o (yielded l.toArray a'.tmps) = true then o.wp P a' w (fun a2 w2 => (i = z ∨ S w2) ∧ K a2 w2) Q else K (a'.put o.dst undef) w
def woPE (P : Program) (l : List Oper) (z : Nat) (S : World → Prop) (Q : Exit → Act → World → Prop) : Pl → Act → World → Prop
 | .stop last, a, w => wpQuiet P l.toArray S (fun a' => Q .normal a' w) (picksE l last) a
 | .one is i r, a, w => wpQuiet P l.toArray S (opPE P l z S Q i w (woPE P l z S Q r)) (picksE l is) a
 | .two is i r j q, a, w => wpQuiet P l.toArray S (fun a' => opPE P l z S Q i w (woPE P l z S Q r) a' ∧ opPE P l z S Q j w (woPE P l z S Q q) a') (picksE l is) a
 | .three is i r j q k t, a, w => wpQuiet P l.toArray S (fun a' => opPE P l z S Q i w (woPE P l z S Q r) a' ∧ opPE P l z S Q j w (woPE P l z S Q q) a' ∧ opPE P l z S Q k w (woPE P l z S Q t) a') (picksE l is) a
variable {l : List Oper} {z : Nat} {w : World} {a : Act}
theorem run_ok3E (hsel : Region.noSelect l.toArray = true) (hQ : ∀ c a d v w, Q (.panic c) (Act.put a d v) w → Q (.panic c) a w) {K : Act → Prop} {fuel : Nat} :
   ∀ (is : List Nat) (L L' : Array Bool) (a : Act), ClosedE md l.toArray L → (S w ∨ is = []) → runB3E md l.toArray z L is = some L' → (∀ a', ClosedE md l.toArray L' → K a' → wpAnyZE P md l.toArray Q S z fuel L' a' w) → wpQuiet P l.toArray S K (picksE l is) a → wpAnyZE P md l.toArray Q S z (is.length + fuel) L a w
 | [], L, L', a, hcl, _, hb, hK, h => by
   cases hb
   simpa using hK a hcl h
 | i :: r, L, L', a, hcl, hS', hb, hK, h => by
   have hS : S w := hS'.resolve_right (by simp)
   unfold runB3E at hb
   split at hb
   · rename_i hc
     simp only [Bool.and_eq_true, decide_eq_true_eq, beq_iff_eq] at hc
     obtain ⟨⟨⟨⟨h1, h2⟩, h3⟩, h4⟩, h5⟩ := hc
     have h5' : l.toArray.size ≤ z ∨ waitsTE md l.toArray 4 z i = true := by simpa using h5
     have ho : l.toArray[i]? = some l.toArray[i] := Array.getElem?_eq_getElem h3
     generalize l.toArray[i] = o at ho
     have hol : l[i]? = some o := by simpa using ho
     rw [picksE, pick_ofE hol, List.singleton_append] at h
     rw [ho] at h4
     have h4' : plainBE o = true := by simpa using h4
     have key : ∃ v, YieldsIf P l.toArray S o v a ∧ wpQuiet P l.toArray S K (picksE l r) (a.put o.dst v) := by
       unfold wpQuiet at h
       by_cases hw : Region.wanted o (yielded l.toArray a.tmps) = true
       · rw [if_pos hw] at h
         obtain ⟨v, e1, e2⟩ := h
         exact ⟨v, yields_of_quietE h4' hw e1, e2⟩
       · rw [if_neg hw] at h
         exact ⟨undef, .inr ⟨by simpa using hw, rfl⟩, h⟩
     obtain ⟨v, hy, hr⟩ := key
     have hri : i ∈ Region.ready md l.toArray L := by simpa using h2
     have := wpAnyZ_firstTE (z := z) ho h5' (Region.noSelect_spec hsel) (fun c a w => hQ c a _ _ w) (r.length + fuel) L a w hcl (Region.free_spec ho h1) hri hy hS (run_ok3E hsel hQ r _ L' _ (hcl.set hri) (.inl hS) hb hK hr)
     rw [show (i :: r).length + fuel = r.length + fuel + 1 by simp; omega]
     exact this
   · cases hb
theorem opP_ok {i n : Nat} {K : Act → World → Prop} {L' : Array Bool} {a' : Act} (b2 : i < l.toArray.size) (hS : S w) (h' : opPE P l z S Q i w K a')
   (ih : ∀ a2 w2, (i = z ∨ S w2) → K a2 w2 → wpAnyZE P md l.toArray Q S z n (L'.setIfInBounds i true) a2 w2) : wpOp P l.toArray Q i (fun a' w' => (i = z ∨ S w') ∧ wpAnyZE P md l.toArray Q S z n (L'.setIfInBounds i true) a' w') a' w := by
 have ho : l.toArray[i]? = some l.toArray[i] := Array.getElem?_eq_getElem b2
 generalize l.toArray[i] = o at ho
 have hol : l[i]? = some o := by simpa using ho
 have h2 := h' o (pick_ofE hol)
 unfold wpOp
 simp only [ho]
 split
 · rename_i hw
   rw [if_pos hw] at h2
   exact .inl (Oper.wp_mono (fun a3 w3 h3 => ⟨h3.1, ih a3 w3 h3.1 h3.2⟩) h2)
 · rename_i hw
   rw [if_neg hw] at h2
   exact ⟨.inr hS, ih _ _ (.inr hS) h2⟩
theorem pl_ok (hsel : Region.noSelect l.toArray = true) (hQ : ∀ c a d v w, Q (.panic c) (Act.put a d v) w → Q (.panic c) a w) :
   ∀ (p : Pl) (n : Nat) (L : Array Bool) (a : Act) (w : World), ClosedE md l.toArray L → plB md l.toArray z n L p = true → (S w ∨ isStop p = true) → woPE P l z S Q p a w → wpAnyZE P md l.toArray Q S z n L a w
 | .stop last, n, L, a, w, hcl, hb, hS, h => by
   unfold plB at hb
   cases hr : runB3E md l.toArray z L last with
   | none => rw [hr] at hb; simp at hb
   | some L' =>
     rw [hr] at hb
     simp only [Bool.and_eq_true, decide_eq_true_eq] at hb
     have hS' : S w ∨ last = [] := hS.imp id fun h => by cases last with
       | nil => rfl
       | cons _ _ => cases h
     have := run_ok3E (fuel := 0) hsel hQ last L L' a hcl hS' hr (K := fun a' => Q .normal a' w) (fun a' _ h' => ⟨hb.1, h'⟩) h
     rw [hb.2]; exact this
 | .one is i r, n, L, a, w, hcl, hb, hS', h => by
   have hS : S w := hS'.resolve_right (by simp [isStop])
   unfold plB at hb
   cases hr : runB3E md l.toArray z L is with
   | none => rw [hr] at hb; simp at hb
   | some L' =>
     rw [hr] at hb
     simp only [Bool.and_eq_true, decide_eq_true_eq, Bool.or_eq_true] at hb
     obtain ⟨⟨⟨⟨b1, b2⟩, b4⟩, b5⟩, b3⟩ := hb
     have := run_ok3E (fuel := n - (is.length + 1) + 1) hsel hQ is L L' a hcl (.inl hS) hr (fun a' hcl' h' => (by
       have hri : i ∈ Region.ready md l.toArray L' := by rw [b1]; simp
       refine ⟨fun h0 => (by rw [b1] at h0; cases h0), fun j hj => ?_⟩
       rw [b1] at hj
       obtain rfl : j = i := by simpa using hj
       exact opP_ok b2 hS h' fun a2 w2 hs hk => pl_ok hsel hQ r _ _ a2 w2 (hcl'.set hri) b3 (by
         rcases hs with e | e
         · rcases b4 with b4 | b4
           · exact absurd e b4
           · exact .inr b4
         · exact .inl e) hk)) h
     rw [show n = is.length + (n - (is.length + 1) + 1) by omega]
     exact this
 | .two is i r j q, n, L, a, w, hcl, hb, hS', h => by
   have hS : S w := hS'.resolve_right (by simp [isStop])
   unfold plB at hb
   cases hr : runB3E md l.toArray z L is with
   | none => rw [hr] at hb; simp at hb
   | some L' =>
     rw [hr] at hb
     simp only [Bool.and_eq_true, decide_eq_true_eq] at hb
     obtain ⟨⟨⟨⟨⟨⟨⟨b1, b2⟩, b2'⟩, b4⟩, b4'⟩, b5⟩, b3⟩, b3'⟩ := hb
     have := run_ok3E (fuel := n - (is.length + 1) + 1) hsel hQ is L L' a hcl (.inl hS) hr (fun a' hcl' h' => (by
       have hri : i ∈ Region.ready md l.toArray L' := by rw [b1]; simp
       have hrj : j ∈ Region.ready md l.toArray L' := by rw [b1]; simp
       refine ⟨fun h0 => (by rw [b1] at h0; cases h0), fun k hk => ?_⟩
       rw [b1] at hk
       rcases (by simpa using hk : k = i ∨ k = j) with rfl | rfl
       · exact opP_ok b2 hS h'.1 fun a2 w2 hs hk => pl_ok hsel hQ r _ _ a2 w2 (hcl'.set hri) b3 (.inl (hs.resolve_left b4)) hk
       · exact opP_ok b2' hS h'.2 fun a2 w2 hs hk => pl_ok hsel hQ q _ _ a2 w2 (hcl'.set hrj) b3' (.inl (hs.resolve_left b4')) hk)) h
     rw [show n = is.length + (n - (is.length + 1) + 1) by omega]
     exact this
 | .three is i r j q k t, n, L, a, w, hcl, hb, hS', h => by
   have hS : S w := hS'.resolve_right (by simp [isStop])
   unfold plB at hb
   cases hr : runB3E md l.toArray z L is with
   | none => rw [hr] at hb; simp at hb
   | some L' =>
     rw [hr] at hb
     simp only [Bool.and_eq_true, decide_eq_true_eq] at hb
     obtain ⟨⟨⟨⟨⟨⟨⟨⟨⟨⟨b1, b2⟩, b2'⟩, b2''⟩, b4⟩, b4'⟩, b4''⟩, b5⟩, b3⟩, b3'⟩, b3''⟩ := hb
     have := run_ok3E (fuel := n - (is.length + 1) + 1) hsel hQ is L L' a hcl (.inl hS) hr (fun a' hcl' h' => (by
       have hri : i ∈ Region.ready md l.toArray L' := by rw [b1]; simp
       have hrj : j ∈ Region.ready md l.toArray L' := by rw [b1]; simp
       have hrk : k ∈ Region.ready md l.toArray L' := by rw [b1]; simp
       refine ⟨fun h0 => (by rw [b1] at h0; cases h0), fun m hk => ?_⟩
       rw [b1] at hk
       rcases (by simpa using hk : m = i ∨ m = j ∨ m = k) with rfl | rfl | rfl
       · exact opP_ok b2 hS h'.1 fun a2 w2 hs hk => pl_ok hsel hQ r _ _ a2 w2 (hcl'.set hri) b3 (.inl (hs.resolve_left b4)) hk
       · exact opP_ok b2' hS h'.2.1 fun a2 w2 hs hk => pl_ok hsel hQ q _ _ a2 w2 (hcl'.set hrj) b3' (.inl (hs.resolve_left b4')) hk
       · exact opP_ok b2'' hS h'.2.2 fun a2 w2 hs hk => pl_ok hsel hQ t _ _ a2 w2 (hcl'.set hrk) b3'' (.inl (hs.resolve_left b4'')) hk)) h
     rw [show n = is.length + (n - (is.length + 1) + 1) by omega]
     exact this
theorem wp_region_plE {id : Nat} (z : Nat) (p : Pl) (S : World → Prop) (hm : P.follows .mixedOrders = true) (hB : plOkE l z p = true)
   (hS : S w.drew) (h : woPE P l z S (NoPanic Q) p a w.drew) : (Code.region id l.toArray true).wp P Q a w := by
 unfold plOkE at hB
 simp only [Bool.and_eq_true] at hB
 refine wp_region_noPanic (wp_region_any hm (wpAny_of_zE (S := S) (z := z) _ _ _ _ ?_))
 have := pl_ok (Q := NoPanic Q) hB.1 (fun _ _ _ _ _ h => h) p _ _ a _ (closed_newE _) hB.2 (.inl hS) h
 simpa using this
end
end Go.Proofs.YtoilipfgimcoiaaGreat
