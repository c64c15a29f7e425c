import Derived.Test.YtcffhfcjfjfokaaShift
import Derived.Test.YtcffhfcjfjfokaaRef1
import Derived.Test.YtcffhfcjfjfokaaTwin
import Derived.StillTailTactics
namespace Go.Proofs.Ytcffhfcjfjfokaa
open Go.RowKit
/-- The document's insertion, half way: the first q of l, s among them. -/
def Half (l : List (Int × Int)) (s : Int × Int) (n q : Nat) (out : List (Int × Int)) (b : Value) : Prop := q ≤ n ∧ out = l.take q ∧ b = .bool false ∨ n < q ∧ out = l.take n ++ s :: (l.take q).drop n ∧ b = .bool true
theorem half_left {l : List (Int × Int)} {s z : Int × Int} {n q : Nat} (hq : q < n) (hz : l[q]? = some z) : Half l s n (q + 1) (l.take q ++ [z]) (.bool false) :=
  .inl ⟨hq, by rw [List.take_add_one, hz]; rfl, rfl⟩
theorem half_mid {l : List (Int × Int)} {s z : Int × Int} {n : Nat} (hz : l[n]? = some z) : Half l s n (n + 1) (l.take n ++ [s, z]) (.bool true) := by
  refine .inr ⟨by omega, ?_, rfl⟩
  have hn := (List.getElem?_eq_some_iff.1 hz).1
  rw [List.take_add_one, hz, List.drop_append_of_le_length (by simp; omega), List.drop_of_length_le (by simp; omega)]
  simp
theorem half_right {l : List (Int × Int)} {s z : Int × Int} {n q : Nat} (hq : n < q) (hz : l[q]? = some z) : Half l s n (q + 1) (l.take n ++ s :: (l.take q).drop n ++ [z]) (.bool true) := by
  refine .inr ⟨by omega, ?_, rfl⟩
  have hn := (List.getElem?_eq_some_iff.1 hz).1
  rw [List.take_add_one, hz, List.drop_append_of_le_length (by simp; omega)]
  simp
theorem half_len {l : List (Int × Int)} {s : Int × Int} {n q : Nat} {out : List (Int × Int)} {b : Value} (h : Half l s n q out b) : out.length ≤ l.length + 1 := by
  rcases h with ⟨_, rfl, _⟩ | ⟨_, rfl, _⟩ <;> simp <;> omega
set_option maxRecDepth 100000 in
set_option maxHeartbeats 4000000 in
theorem sorted_any (A : Option Addr) (cA N : Nat) (l : List (Int × Int)) (s1 s2 : Int) (w : World) (hN : N ≤ w.heap.size) (hA : RowAt w N 2 eSlot A l) (hl : l.length ≤ 4096) :
    Calls Try.prog 63 #[.slice A l.length cA, .agg #[.int .i64 s1, .int .i64 s2]] w fun x w' => (∃ B c, x = .returned (.slice B (l.length + 1) c) ∧ Owns w' w.heap.size 66 2 eSlot B c (ins l (s1, s2))) ∧ Below w.heap.size w w' := by
  obtain ⟨n, hn, h1, h2⟩ := takeWhile_len (fun t => !sltB (s1, s2) t) l
  have h1' : ∀ j x, j < n → l[j]? = some x → sltB (s1, s2) x = false := fun j x hj hx => by simpa using h1 j x hj hx
  have h2' : ∀ x, l[n]? = some x → sltB (s1, s2) x = true := fun x hx => by simpa using h2 x hx
  have hins := Lib.hid (ins_at h1' h2' hn)
  replace h1' := Lib.hid h1'
  replace h2' := Lib.hid h2'
  clear h1 h2
  go_enter Try.func63, Try.ntmps63
  go_wp2
  go_loopw [5, 6, 7] (fun a b k wr => ∃ (q : Nat) (out : List (Int × Int)) (B : Option Addr) (cB m : Nat), k = .int .i64 q ∧ a = .slice B m cB ∧ m = out.length ∧ q ≤ l.length ∧ Owns wr (w.heap.size + 1) 66 2 eSlot B cB out ∧ Half l (s1, s2) n q out b ∧ Below (w.heap.size + 1) (box1 w #[.int .i64 s1, .int .i64 s2] 66) wr) (fun _ _ k _ => l.length - (intOf k).toNat)
  case atStart => exact ⟨0, [], none, 0, 0, rfl, rfl, rfl, by omega, owns_nil _ _ _ _ _, .inl ⟨by omega, by simp, rfl⟩, Below.refl _ _⟩
  case round =>
    obtain ⟨q, out, B, cB, m, rfl, rfl, hm, hq, hown, hH, hb⟩ := hrel
    have hml : m ≤ 4097 := by have := half_len hH; omega
    replace hm := Lib.hid hm
    obtain ⟨hb0, hc, -, hsz⟩ := box1_facts hb
    have hlo := hown.lo
    have hownd : Owns wr.drew (w.heap.size + 1) 66 2 eSlot B cB out := hown
    by_cases hlt : q < l.length
    · obtain ⟨g, o, x, y, hA', hg, hx, c0, c1⟩ := (hA.below hb0 hN).slot hlt
      subst hA'
      have hgw : g < wr.heap.size := by omega
      rcases hH with ⟨hqn, hout, rfl⟩ | ⟨hqn, hout, rfl⟩
      · replace hout := Lib.hid hout
        by_cases hqe : q = n
        · subst hqe
          have t := h2'.out _ hx.out
          simp only [sltB, decide_eq_true_eq] at t
          by_cases t1 : s1 < x
          · go_wp2
            go_quiet (fail)
            go_wp2_with (at_builtin; refine wpList_append_rows _ rfl (.tmp 46) (.tmp 48) 36 rfl (w.heap.size + 1) 66 2 16 _ Try.underlying36 info66 rfl (by decide) eSlot len_eSlot one_eSlot B cB out (some ⟨wr.heap.size, 0, none⟩) 1 (wr.heap.size + 1) m 1 [(s1, s2)] rfl rfl hm.out.symm rfl ?_ ?_ ?_ ?_ ?_ ?_)
            · exact hownd.alloc _
            · exact row_new _ _ _ _ _ _ rfl
            · omega
            · omega
            · simp only [World.size_alloc, size_drewN]; omega
            · intro A1 c1' w1 ho1 hg1 hk1
              have hb1 := ((below_drewN hb _).alloc (by simp only [size_drewN]; omega) (.cells #[.int .i64 s1, .int .i64 s2] 66)).grown hg1 (by simp only [World.size_alloc, size_drewN]; omega) (fun k hk => (hlo k hk).1)
              clear hownd hown hg1 hk1 hb hb0 hc hsz hlo c0 c1
              obtain ⟨hb0, hc, -, hsz⟩ := box1_facts hb1
              have hlo := ho1.lo
              obtain ⟨g', o', x', y', hA', hg', hx', c0, c1⟩ := (hA.below hb0 hN).slot hlt
              obtain ⟨rfl, rfl⟩ : g = g' ∧ o = o' := by injection hA' with h; injection h with h1 h2; exact ⟨h1, h2⟩
              obtain ⟨rfl, rfl⟩ : x = x' ∧ y = y' := by have := hx'.out; rw [hx.out] at this; injection this with h; injection h with h1 h2; exact ⟨h1, h2⟩
              clear hA' hg'
              have hm1 : (out ++ [(s1, s2)]).length = m + 1 := by rw [List.length_append, ← hm.out]; rfl
              replace hm1 := Lib.hid hm1
              go_wp2_with (at_builtin; refine wpList_append_rows _ rfl (.tmp 50) (.tmp 55) 36 rfl (w.heap.size + 1) 66 2 16 _ Try.underlying36 info66 rfl (by decide) eSlot len_eSlot one_eSlot A1 c1' (out ++ [(s1, s2)]) (some ⟨w1.heap.size, 0, none⟩) 1 (w1.heap.size + 1) (m + 1) 1 [(x, y)] rfl rfl hm1.out rfl ?_ ?_ ?_ ?_ ?_ ?_)
              · exact ho1.alloc _
              · exact row_new _ _ _ _ _ _ rfl
              · omega
              · omega
              · simp only [World.size_alloc, size_drewN]; omega
              · intro A2 c2 w2 ho2 hg2 hk2
                have hb2 := (hb1.alloc (by omega) (.cells #[.int .i64 x, .int .i64 y] 66)).grown hg2 (by simp only [World.size_alloc]; omega) (fun k hk => (hlo k hk).1)
                clear ho1 hg2 hk2 hb1
                rw [hout.out] at ho2
                replace ho2 := Lib.hid ho2
                replace hm1 := Lib.hid hm1
                go_wp2
                go_roundw
                case rel =>
                  go_light
                  exact ⟨q + 1, _, A2, c2, m + 1 + 1, by go_num, rfl, by have h9 := hm1.out.out; simp only [List.length_append, List.length_cons, List.length_nil] at h9 ⊢; rw [← hout.out]; omega, by omega, ho2.out, half_mid hx.out, hb2⟩
                case measure => go_light; simp [intOf]; omega
          · obtain ⟨t2, t3⟩ : s1 = x ∧ s2 < y := by omega
            subst t2
            clear t
            go_wp2
            go_quiet (fail)
            go_wp2_with (at_builtin; refine wpList_append_rows _ rfl (.tmp 46) (.tmp 48) 36 rfl (w.heap.size + 1) 66 2 16 _ Try.underlying36 info66 rfl (by decide) eSlot len_eSlot one_eSlot B cB out (some ⟨wr.heap.size, 0, none⟩) 1 (wr.heap.size + 1) m 1 [(s1, s2)] rfl rfl hm.out.symm rfl ?_ ?_ ?_ ?_ ?_ ?_)
            · exact hownd.alloc _
            · exact row_new _ _ _ _ _ _ rfl
            · omega
            · omega
            · simp only [World.size_alloc, size_drewN]; omega
            · intro A1 c1' w1 ho1 hg1 hk1
              have hb1 := ((below_drewN hb _).alloc (by simp only [size_drewN]; omega) (.cells #[.int .i64 s1, .int .i64 s2] 66)).grown hg1 (by simp only [World.size_alloc, size_drewN]; omega) (fun k hk => (hlo k hk).1)
              clear hownd hown hg1 hk1 hb hb0 hc hsz hlo c0 c1
              obtain ⟨hb0, hc, -, hsz⟩ := box1_facts hb1
              have hlo := ho1.lo
              obtain ⟨g', o', x', y', hA', hg', hx', c0, c1⟩ := (hA.below hb0 hN).slot hlt
              obtain ⟨rfl, rfl⟩ : g = g' ∧ o = o' := by injection hA' with h; injection h with h1 h2; exact ⟨h1, h2⟩
              obtain ⟨rfl, rfl⟩ : s1 = x' ∧ y = y' := by have := hx'.out; rw [hx.out] at this; injection this with h; injection h with h1 h2; exact ⟨h1, h2⟩
              clear hA' hg'
              have hm1 : (out ++ [(s1, s2)]).length = m + 1 := by rw [List.length_append, ← hm.out]; rfl
              replace hm1 := Lib.hid hm1
              go_wp2_with (at_builtin; refine wpList_append_rows _ rfl (.tmp 50) (.tmp 55) 36 rfl (w.heap.size + 1) 66 2 16 _ Try.underlying36 info66 rfl (by decide) eSlot len_eSlot one_eSlot A1 c1' (out ++ [(s1, s2)]) (some ⟨w1.heap.size, 0, none⟩) 1 (w1.heap.size + 1) (m + 1) 1 [(s1, y)] rfl rfl hm1.out rfl ?_ ?_ ?_ ?_ ?_ ?_)
              · exact ho1.alloc _
              · exact row_new _ _ _ _ _ _ rfl
              · omega
              · omega
              · simp only [World.size_alloc, size_drewN]; omega
              · intro A2 c2 w2 ho2 hg2 hk2
                have hb2 := (hb1.alloc (by omega) (.cells #[.int .i64 s1, .int .i64 y] 66)).grown hg2 (by simp only [World.size_alloc]; omega) (fun k hk => (hlo k hk).1)
                clear ho1 hg2 hk2 hb1
                rw [hout.out] at ho2
                replace ho2 := Lib.hid ho2
                replace hm1 := Lib.hid hm1
                go_wp2
                go_roundw
                case rel =>
                  go_light
                  exact ⟨q + 1, _, A2, c2, m + 1 + 1, by go_num, rfl, by have h9 := hm1.out.out; simp only [List.length_append, List.length_cons, List.length_nil] at h9 ⊢; rw [← hout.out]; omega, by omega, ho2.out, half_mid hx.out, hb2⟩
                case measure => go_light; simp [intOf]; omega
        · have t := h1'.out _ _ (by omega) hx.out
          simp only [sltB, decide_eq_false_iff_not] at t
          have t1 : ¬ s1 < x := by omega
          by_cases t2 : s1 = x
          · subst t2
            have t3 : ¬ s2 < y := by omega
            clear t
            go_wp2
            go_quiet (fail)
            go_wp2_with (at_builtin; refine wpList_append_rows _ rfl (.tmp 50) (.tmp 55) 36 rfl (w.heap.size + 1) 66 2 16 _ Try.underlying36 info66 rfl (by decide) eSlot len_eSlot one_eSlot B cB out (some ⟨wr.heap.size, 0, none⟩) 1 (wr.heap.size + 1) m 1 [(s1, y)] rfl rfl hm.out.symm rfl ?_ ?_ ?_ ?_ ?_ ?_)
            · exact hownd.alloc _
            · exact row_new _ _ _ _ _ _ rfl
            · omega
            · omega
            · simp only [World.size_alloc, size_drewN]; omega
            · intro A1 c1 w1 ho1 hg1 hk1
              have hb1 := ((below_drewN hb _).alloc (by simp only [size_drewN]; omega) (.cells #[.int .i64 s1, .int .i64 y] 66)).grown hg1 (by simp only [World.size_alloc, size_drewN]; omega) (fun k hk => (hlo k hk).1)
              clear hownd hown hg1 hk1 hb
              rw [hout.out] at ho1
              replace ho1 := Lib.hid ho1
              go_wp2
              go_roundw
              case rel =>
                go_light
                exact ⟨q + 1, _, A1, c1, m + 1, by go_num, rfl, by rw [List.length_append, ← hout.out, ← hm.out]; rfl, by omega, ho1.out, half_left (by omega) hx.out, hb1⟩
              case measure => go_light; simp [intOf]; omega
          · clear t
            go_wp2
            go_quiet (fail)
            go_wp2_with (at_builtin; refine wpList_append_rows _ rfl (.tmp 50) (.tmp 55) 36 rfl (w.heap.size + 1) 66 2 16 _ Try.underlying36 info66 rfl (by decide) eSlot len_eSlot one_eSlot B cB out (some ⟨wr.heap.size, 0, none⟩) 1 (wr.heap.size + 1) m 1 [(x, y)] rfl rfl hm.out.symm rfl ?_ ?_ ?_ ?_ ?_ ?_)
            · exact hownd.alloc _
            · exact row_new _ _ _ _ _ _ rfl
            · omega
            · omega
            · simp only [World.size_alloc, size_drewN]; omega
            · intro A1 c1 w1 ho1 hg1 hk1
              have hb1 := ((below_drewN hb _).alloc (by simp only [size_drewN]; omega) (.cells #[.int .i64 x, .int .i64 y] 66)).grown hg1 (by simp only [World.size_alloc, size_drewN]; omega) (fun k hk => (hlo k hk).1)
              clear hownd hown hg1 hk1 hb
              rw [hout.out] at ho1
              replace ho1 := Lib.hid ho1
              go_wp2
              go_roundw
              case rel =>
                go_light
                exact ⟨q + 1, _, A1, c1, m + 1, by go_num, rfl, by rw [List.length_append, ← hout.out, ← hm.out]; rfl, by omega, ho1.out, half_left (by omega) hx.out, hb1⟩
              case measure => go_light; simp [intOf]; omega
      · replace hout := Lib.hid hout
        go_wp2
        go_quiet (fail)
        go_wp2_with (at_builtin; refine wpList_append_rows _ rfl (.tmp 50) (.tmp 55) 36 rfl (w.heap.size + 1) 66 2 16 _ Try.underlying36 info66 rfl (by decide) eSlot len_eSlot one_eSlot B cB out (some ⟨wr.heap.size, 0, none⟩) 1 (wr.heap.size + 1) m 1 [(x, y)] rfl rfl hm.out.symm rfl ?_ ?_ ?_ ?_ ?_ ?_)
        · exact hownd.alloc _
        · exact row_new _ _ _ _ _ _ rfl
        · omega
        · omega
        · simp only [World.size_alloc, size_drewN]; omega
        · intro A1 c1 w1 ho1 hg1 hk1
          have hb1 := ((below_drewN hb _).alloc (by simp only [size_drewN]; omega) (.cells #[.int .i64 x, .int .i64 y] 66)).grown hg1 (by simp only [World.size_alloc, size_drewN]; omega) (fun k hk => (hlo k hk).1)
          clear hownd hown hg1 hk1 hb
          rw [hout.out] at ho1
          replace ho1 := Lib.hid ho1
          go_wp2
          go_roundw
          case rel =>
            go_light
            exact ⟨q + 1, _, A1, c1, m + 1, by go_num, rfl, by rw [List.length_append, ← hout.out, ← hm.out]; rfl, by omega, ho1.out, half_right hqn hx.out, hb1⟩
          case measure => go_light; simp [intOf]; omega
    · rcases hH with ⟨hqn, hout, rfl⟩ | ⟨hqn, hout, rfl⟩
      · have hql : q = l.length := by omega
        have hnl : n = l.length := by omega
        subst hql
        replace hout := Lib.hid hout
        clear hqn
        go_wp2_with (at_builtin; refine wpList_append_rows _ rfl (.tmp 59) (.tmp 61) 36 rfl (w.heap.size + 1) 66 2 16 _ Try.underlying36 info66 rfl (by decide) eSlot len_eSlot one_eSlot B cB out (some ⟨wr.heap.size, 0, none⟩) 1 (wr.heap.size + 1) m 1 [(s1, s2)] rfl rfl hm.out.symm rfl ?_ ?_ ?_ ?_ ?_ ?_)
        · exact hown.alloc _
        · exact row_new _ _ _ _ _ _ rfl
        · omega
        · omega
        · simp only [World.size_alloc]; omega
        · intro A1 c1 w1 ho1 hg1 hk1
          have hb1 := (hb0.alloc (by omega) (.cells #[.int .i64 s1, .int .i64 s2] 66)).grown hg1 (by simp only [World.size_alloc]; omega) (fun k hk => by have := (hlo k hk).1; omega)
          go_wp2
          go_ret
          go_light
          have hm' := hm.out
          rw [hout.out, List.take_length] at hm' ho1
          rw [hm']
          refine ⟨⟨A1, c1, rfl, ?_⟩, hb1⟩
          rw [hins.out, hnl, List.take_length, List.drop_length]
          exact ho1.lower (by omega)
      · have hql : q = l.length := by omega
        subst hql
        have hm' := hm.out
        rw [List.take_length] at hout
        have ho : out = ins l (s1, s2) := by rw [hins.out, hout]
        rw [ho, ins_length] at hm'
        rw [ho] at hown
        subst hm'
        clear hout ho hm hownd
        go_wp2
        go_ret
        go_light
        exact ⟨⟨B, cB, rfl, hown.lower (by omega)⟩, hb0⟩
end Go.Proofs.Ytcffhfcjfjfokaa
