import Derived.Test.YtcffhfcjfjfokaaIcut
import Derived.Test.YtcffhfcjfjfokaaPick
import Derived.Test.YtcffhfcjfjfokaaLackone
namespace Go.Proofs.Ytcffhfcjfjfokaa
open Go.RowKit
/-- What Lacks answers: the slots and 0, or none and the error. -/
def LacksIs (done : Int) (own : Fl) (fs : List Fl) (l : List (Int × Int)) (n : Int) : Prop :=
  if 0 ≤ done ∧ done ≤ 4611686018427387904 then
    (∃ m, m ≠ 0 ∧ ListedMore fs [own] m ∧ n = m ∧ l = []) ∨
    (ListedMore fs [own] 0 ∧ Fit (fs ++ [own]) ∧ done < baseOf (fs ++ [own]) ∧ n = 82 ∧ l = []) ∨
    (ListedMore fs [own] 0 ∧ Fit (fs ++ [own]) ∧ baseOf (fs ++ [own]) ≤ done ∧ n = 0 ∧ ∃ cut F, IsCut (fs ++ [own]) cut ∧ (∀ pos s, F pos = some s ↔ Known (fs ++ [own]) pos s) ∧ l = pickTo F (fun s => !havB own.have_ s.1 s.2) done (cut - done).toNat)
  else n = 1 ∧ l = []
set_option maxRecDepth 100000 in
set_option maxHeartbeats 2000000 in
theorem lacks_any (done : Int) (own : Fl) (X Y A : Option Addr) (cX cY cA N : Nat) (fs : List Fl) (w : World) (hN : N ≤ w.heap.size) (hr : FlRows w N own X cX Y cY) (hA : Fls w N A fs) (hl : fs.length ≤ 9223372036854775807) :
    Calls Try.prog 24 #[.int .i64 done, .agg (flc own.e own.l own.i own.c own.base X own.slots.length cX Y own.have_.length cY), .slice A fs.length cA] w fun x w' =>
      (∃ B c l n, x = .returned (.tuple #[.slice B l.length c, .int .i64 n]) ∧ LacksIs done own fs l n ∧ Owns w' w.heap.size 66 2 eSlot B c l) ∧ Below w.heap.size w w' := by
  by_cases h1 : done < 0
  · have HL : Hid (LacksIs done own fs [] 1) := by show (if _ then _ else _); rw [if_neg (by omega)]; exact ⟨rfl, rfl⟩
    go_enter Try.func24, Try.ntmps24
    go_wp2
    go_ret2
    go_light
    exact ⟨⟨none, 0, [], 1, rfl, HL.out, owns_nil _ _ _ _ _⟩, below_box1 _ _ _⟩
  · by_cases h2 : 4611686018427387904 < done
    · have HL : Hid (LacksIs done own fs [] 1) := by show (if _ then _ else _); rw [if_neg (by omega)]; exact ⟨rfl, rfl⟩
      go_enter Try.func24, Try.ntmps24
      go_wp2
      go_ret2
      go_light
      exact ⟨⟨none, 0, [], 1, rfl, HL.out, owns_nil _ _ _ _ _⟩, below_box1 _ _ _⟩
    · have HB : ∃ W2, W2 = (box1 w (flc own.e own.l own.i own.c own.base X own.slots.length cX Y own.have_.length cY) 39).alloc (.cells (flc own.e own.l own.i own.c own.base X own.slots.length cX Y own.have_.length cY) 39) := ⟨_, rfl⟩
      obtain ⟨W2, HW2⟩ := HB
      have hbB : Below (w.heap.size + 1) (box1 w (flc own.e own.l own.i own.c own.base X own.slots.length cX Y own.have_.length cY) 39) W2 := by rw [HW2]; exact (Below.refl _ _).alloc (by simp) _
      obtain ⟨hbW, hcW, -, -⟩ := box1_facts hbB
      have hsW : W2.heap.size = w.heap.size + 2 := by rw [HW2]; simp
      have hrW : RowAt W2 (w.heap.size + 2) 7 eRw (some ⟨w.heap.size + 1, 0, none⟩) [⟨own, X, cX, Y, cY⟩] := by
        have := row_new (box1 w (flc own.e own.l own.i own.c own.base X own.slots.length cX Y own.have_.length cY) 39) 39 7 eRw ⟨own, X, cX, Y, cY⟩ (flc own.e own.l own.i own.c own.base X own.slots.length cX Y own.have_.length cY) rfl
        rw [← HW2] at this
        simpa using this
      have hB2 : Fls W2 (w.heap.size + 2) (some ⟨w.heap.size + 1, 0, none⟩) [own] := rows_fls ⟨hrW, fun r hr' => by
        obtain rfl := List.mem_singleton.1 hr'
        exact (hr.below hbW hN).more (by omega)⟩
      have hA2 : Fls W2 (w.heap.size + 2) A fs := (hA.below hbW hN).more (by omega)
      clear hrW
      replace HW2 := Lib.hid HW2
      have HW := Lib.hid (list_any A (some ⟨w.heap.size + 1, 0, none⟩) cA 1 (w.heap.size + 2) fs [own] W2 (by omega) hA2 hB2 hl (by simp))
      replace hbB := Lib.hid hbB
      clear hA2 hB2 hcW
      go_enter Try.func24, Try.ntmps24
      go_wp2_with (go_at_call 52; change Calls Try.prog 52 _ ((box1 w (flc own.e own.l own.i own.c own.base X own.slots.length cX Y own.have_.length cY) 39).alloc (.cells (flc own.e own.l own.i own.c own.base X own.slots.length cX Y own.have_.length cY) 39)) _; rw [← HW2.out]; refine HW.out.mono ?_; intro e w' hp; obtain ⟨hbw, hp⟩ := list_cases hp; rcases hp with ⟨n, rfl, hn0, hL⟩ | ⟨bs, bu, cut, F, m, rfl, hL, hfit, hcut, hbs, hbu, hub, hM, hF⟩; all_goals try have hcc := blk_cells hub)
      · go_ret2
        go_light
        exact ⟨⟨none, 0, [], n, rfl, by unfold LacksIs; rw [if_pos (by omega)]; exact .inl ⟨n, hn0, hL, rfl, rfl⟩, owns_nil _ _ _ _ _⟩, hbW.trans (hbw.mono (by omega))⟩
      · have hlt : done < baseOf (fs ++ [own]) := by simp_all
        go_ret2
        go_light
        exact ⟨⟨none, 0, [], 82, rfl, by unfold LacksIs; rw [if_pos (by omega)]; exact .inr (.inl ⟨hL, hfit, hlt, rfl, rfl⟩), owns_nil _ _ _ _ _⟩, hbW.trans (hbw.mono (by omega))⟩
      · have hge : baseOf (fs ++ [own]) ≤ done := by simp_all
        have hcb := cut_bound hfit (n := (cut - baseOf (fs ++ [own])).toNat) (fun p h1 h2 => hcut.all p h1 (by have := hcut.low; omega))
        have hlow := hcut.low
        have hmem : own ∈ fs ++ [own] := by simp
        refine (pick_60 (.pointer (some ⟨w.heap.size, 0, none⟩)) bs bu m (baseOf (fs ++ [own])) cut done F (fun s => !havB own.have_ s.1 s.2) w' hub hM (by omega) (by omega) (by omega) (by omega) (fun pos h1 h2 => ?_) (fun s W hbW' hpos => ?_)).mono ?_
        · obtain ⟨s, hs, -⟩ := (whole_iff hfit).1 (hcut.all pos (by omega) h2)
          exact ⟨s, (hF pos s).2 hs⟩
        · obtain ⟨pos, -, -, hs⟩ := hpos
          obtain ⟨g, hg, k1, k2, -⟩ := known_slot hfit ((hF pos s).1 hs)
          have hol := one_len hfit hmem hg
          have hbB2 := (hbB.out.trans (hbw.mono (by omega))).trans (hbW'.mono (by have := hbw.size; omega))
          obtain ⟨hb9, hc9, -, hs9⟩ := box1_facts hbB2
          exact lacks1_any own X Y cX cY N w.heap.size s.1 s.2 W (by omega) (hr.below hb9 hN) hs9 hc9 k1 (by omega)
        · rintro e w3 ⟨⟨B, c, rfl, hown⟩, hb3⟩
          have hown2 := hown.lower (base' := w.heap.size) (by have := hbw.size; omega)
          have hLI : LacksIs done own fs (pickTo F (fun s => !havB own.have_ s.1 s.2) done (cut - done).toNat) 0 := by unfold LacksIs; rw [if_pos (by omega)]; exact .inr (.inr ⟨hL, hfit, hge, rfl, cut, F, hcut, hF, rfl⟩)
          replace hLI := Lib.hid hLI
          replace hown2 := Lib.hid hown2
          have hbz := (hbW.trans (hbw.mono (by omega))).trans (hb3.mono (by have := hbw.size; omega))
          clear hown hF hM hub hcc hfit hcut
          generalize pickTo F (fun s => !havB own.have_ s.1 s.2) done (cut - done).toNat = l at *
          go_wp2
          go_ret2
          go_light
          exact ⟨⟨B, c, l, 0, rfl, hLI.out, hown2.out⟩, hbz⟩
end Go.Proofs.Ytcffhfcjfjfokaa
