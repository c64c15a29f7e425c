/- Rest Msg96 BkNew Room, joined. -/
import Derived.Deep.RegionHeld3
import Derived.IntWalk
import Derived.Test.YtcffhfcjfjfokaaSh4
import Derived.Test.YtcffhfcjfjfokaaSh7
import Derived.Test.YtcffhfcjfjfokaaSh12
import Derived.Test.YtcffhfcjfjfokaaSh14
import Derived.Test.YtcffhfcjfjfokaaSh15
import Derived.Test.YtcffhfcjfjfokaaSh17
import Derived.Test.YtcffhfcjfjfokaaSh18
set_option linter.unusedVariables false
set_option linter.unusedSimpArgs false
/- What Rest answers. -/
namespace Go.Proofs.Ytcffhfcjfjfokaa
open Go.RowKit
/-- The senders and numbers can be keys of a map. -/
def KeyD (ds : List Dt) : Prop := ∀ d ∈ ds, (Lit.int .i64 d.s).wf = true ∧ (Lit.int .i64 d.q).wf = true
/-- Messages in rows of the call's own, each one's bytes in a row of its own. -/
structure MsOwn (w : World) (base : Nat) (B : Option Addr) (c : Nat) (rs : List Dr) : Prop where
  row : Owns w base 54 4 eDr B c rs
  each : ∀ r ∈ rs, Owns w base 5 1 eByte r.B r.c r.d.body
  sep : rs.Pairwise fun a b => blk a.B = none ∨ blk a.B ≠ blk b.B
def RestPost (done : Int) (fs : List Fl) (ds : List Dt) (w : World) (x : Ending) (w' : World) : Prop :=
  (∃ B c rs n, x = .returned (.tuple #[.slice B rs.length c, .int .i64 n]) ∧ RestIs done fs ds (rs.map Dr.d) n ∧ MsOwn w' w.heap.size B c rs) ∧ Below w.heap.size w w'
theorem rest_none {done : Int} {fs : List Fl} {ds : List Dt} {w w' : World} {n : Int} (h : RestIs done fs ds [] n) (hb : Below w.heap.size w w') : RestPost done fs ds w (.returned (.tuple #[.slice none 0 0, .int .i64 n])) w' :=
  ⟨⟨none, 0, [], n, rfl, h, ⟨owns_nil _ _ _ _ _, by simp, List.Pairwise.nil⟩⟩, hb⟩
theorem MsOwn.lower {w : World} {base base' : Nat} {B : Option Addr} {c : Nat} {rs : List Dr} (h : MsOwn w base B c rs) (hb : base' ≤ base) : MsOwn w base' B c rs := ⟨h.row.lower hb, fun r hr => (h.each r hr).lower hb, h.sep⟩
theorem MsOwn.snoc {w w7 w8 : World} {base : Nat} {B A1 A8 : Option Addr} {c c1 c8 : Nat} {rs : List Dr} {d : Dt} {o : Obj} (h : MsOwn w base B c rs) (hb7 : Below w.heap.size w w7) (ho7 : Owns w7 base 5 1 eByte A1 c1 d.body) (hA1 : ∀ k, blk A1 = some k → w.heap.size ≤ k)
    (hg8 : (w7.alloc o).grownBy w8 (blk B)) (ho8 : Owns w8 base 54 4 eDr A8 c8 (rs ++ [⟨d, A1, c1⟩])) : MsOwn w8 base A8 c8 (rs ++ [⟨d, A1, c1⟩]) := by
  have hrow7 := (h.row.keep hb7 (fun k hk => (h.row.lo k hk).2)).alloc o
  refine ⟨ho8, fun r hr => ?_, ?_⟩
  · rcases List.mem_append.1 hr with hr | hr
    · have h1 := ((h.each r hr).keep hb7 (fun k hk => ((h.each r hr).lo k hk).2)).alloc o
      exact h1.kept hg8 (h1.ne hrow7 (by decide))
    · obtain rfl := List.mem_singleton.1 hr
      exact (ho7.alloc o).kept hg8 ((ho7.alloc o).ne hrow7 (by decide))
  · refine List.pairwise_append.2 ⟨h.sep, List.pairwise_singleton _ _, fun a ha b hb => ?_⟩
    obtain rfl := List.mem_singleton.1 hb
    cases hab : blk a.B with
    | none => exact .inl rfl
    | some k =>
      refine .inr fun e => ?_
      have h1 := ((h.each a ha).lo k hab).2
      have h2 := hA1 k e.symm
      omega
theorem info54 : (Try.prog.info? 54).map (fun i => (i.zero, i.size, i.bytes)) = some (some (.agg #[.int .i64 0, .int .i64 0, .int .i64 0, .slice none 0 0]), 4, 48) := by kernel_rfl
theorem firstTo_hit {ds : List Dt} {i : Nat} {d : Dt} {v : Int} (hd : ds[i]? = some d) (h : firstTo ds (d.s, d.q) i = some v) : (fun s => firstTo ds s (i + 1)) = fun s => firstTo ds s i := funext fun s => by
  show firstTo ds s (i + 1) = _
  rw [firstTo]
  cases hk : firstTo ds s i with
  | some j => rfl
  | none =>
    rw [hd]
    dsimp only
    rw [if_neg]
    rintro ⟨e1, e2⟩
    have : s = (d.s, d.q) := by rw [e1, e2]
    rw [this, h] at hk; cases hk
theorem firstTo_new {ds : List Dt} {i : Nat} {d : Dt} (hd : ds[i]? = some d) (h : firstTo ds (d.s, d.q) i = none) : (fun s => firstTo ds s (i + 1)) = fun s => if s = (d.s, d.q) then some (i : Int) else firstTo ds s i := funext fun s => by
  show firstTo ds s (i + 1) = _
  rw [firstTo]
  by_cases e : s = (d.s, d.q)
  · subst e
    rw [h, if_pos rfl, hd]
    dsimp only
    rw [if_pos ⟨rfl, rfl⟩]
  · rw [if_neg e]
    cases hk : firstTo ds s i with
    | some j => rfl
    | none =>
      rw [hd]
      dsimp only
      rw [if_neg]
      rintro ⟨e1, e2⟩
      exact e (by rw [e1, e2])
/-- The world in a round: below B0 as it was, the slot's box there. -/
structure RestT (w5 : World) (b : Nat) (bx : Array Value) (W : World) : Prop where
  bel : Below w5.heap.size w5 W
  box : ∀ i, W.cell? ⟨b, i, none⟩ = bx[i]?
  size : b < W.heap.size
  low : w5.heap.size ≤ b
theorem RestT.drew {w5 W : World} {b : Nat} {bx : Array Value} (h : RestT w5 b bx W) : RestT w5 b bx W.drew := ⟨Below.drew h.bel, h.box, h.size, h.low⟩
theorem RestT.below {w5 W W' : World} {b : Nat} {bx : Array Value} (h : RestT w5 b bx W) (hb : Below W.heap.size W W') : RestT w5 b bx W' :=
  ⟨h.bel.trans (hb.mono h.bel.size), fun i => (hb.cell (p := ⟨b, i, none⟩) h.size).trans (h.box i), Nat.lt_of_lt_of_le h.size hb.size, h.low⟩
theorem RestT.alloc {w5 W : World} {b : Nat} {bx : Array Value} (h : RestT w5 b bx W) (o : Obj) : RestT w5 b bx (W.alloc o) := h.below ((Below.refl _ _).alloc (Nat.le_refl _) _)
theorem RestT.grown {w5 W W' : World} {b : Nat} {bx : Array Value} {B : Option Addr} (h : RestT w5 b bx W) (hg : W.grownBy W' (blk B)) (hB : ∀ k, blk B = some k → w5.heap.size ≤ k ∧ k < b) : RestT w5 b bx W' :=
  ⟨h.bel.grown hg h.bel.size (fun k hk => (hB k hk).1), fun i => (hg.cell_far ⟨b, i, none⟩ h.size (fun e => by have := (hB b e.symm).2; omega)).trans (h.box i), Nat.lt_of_lt_of_le h.size hg.size, h.low⟩
set_option maxRecDepth 100000 in
set_option maxHeartbeats 4000000 in
theorem rest_any (done : Int) (A M : Option Addr) (cA cM N : Nat) (fs : List Fl) (ds : List Dt) (w : World) (hN : N ≤ w.heap.size) (hA : Fls w N A fs) (hM : Dts w N M ds) (hl : fs.length ≤ 9223372036854775807) (hsm : SmallD ds) (hkd : KeyD ds) :
    Calls Try.prog 19 #[.int .i64 done, .slice A fs.length cA, .slice M ds.length cM] w (RestPost done fs ds w) := by
  have hld : ds.length ≤ 1048576 := hsm.1
  replace hsm := Lib.hid hsm
  replace hkd := Lib.hid hkd
  by_cases h1 : done < 0
  · have HL : Hid (RestIs done fs ds [] 1) := by show (if _ then _ else _); rw [if_neg (by omega)]; exact ⟨rfl, rfl⟩
    go_enter Try.func19, Try.ntmps19
    go_wp2
    go_ret2
    go_light
    exact rest_none HL.out (Below.refl _ _)
  · by_cases h2 : 4611686018427387904 < done
    · have HL : Hid (RestIs done fs ds [] 1) := by show (if _ then _ else _); rw [if_neg (by omega)]; exact ⟨rfl, rfl⟩
      go_enter Try.func19, Try.ntmps19
      go_wp2
      go_ret2
      go_light
      exact rest_none HL.out (Below.refl _ _)
    · have hmm := @run_makeMap Try.prog
      have H52 := Lib.hid (list_any A none cA 0 N fs [] w hN hA (fun h => absurd h (by simp)) hl (by simp))
      go_enter Try.func19, Try.ntmps19
      go_wp2_with (go_at_call 52; refine H52.out.mono ?_; intro e w' hp; obtain ⟨hbw, hp⟩ := list_cases hp; rw [List.append_nil] at hp; rcases hp with ⟨n, rfl, hn0, hL⟩ | ⟨bs, bu, cut, F, m, rfl, hL, hfit, hcut, hbs, hbu, hub, hMu, hF⟩; all_goals try (have hcc0 : w'.cell? ⟨bs, 0, none⟩ = some (.int .i64 (baseOf fs)) := (blk_cells hub 0); have hbsl : bs < w'.heap.size := (Array.getElem?_eq_some_iff.1 hub).1))
      · go_ret2
        go_light
        exact rest_none (by unfold RestIs; rw [if_pos (by omega)]; exact .inl ⟨n, hn0, more_nil hL, rfl, rfl⟩) hbw
      · have hlt : done < baseOf fs := by simp_all
        go_ret2
        go_light
        exact rest_none (by unfold RestIs; rw [if_pos (by omega)]; exact .inr (.inl ⟨more_nil hL, hfit, hlt, rfl, rfl⟩)) hbw
      · have hge : baseOf fs ≤ done := by simp_all
        have hsw := hbw.size
        replace hub := Lib.hid hub
        have hfit' := Lib.hid hfit
        have hcut' := Lib.hid hcut
        have hF' := Lib.hid hF
        have hL' := Lib.hid (more_nil hL)
        clear hfit hcut hF hL hcc0 H52
        clear hmm
        go_loopw [44] (fun k wr => ∃ (i n : Nat), k = .int .i64 i ∧ i ≤ ds.length ∧ MapsTo wr Try.prog 66 w'.heap.size n vSlot vInt (fun s => firstTo ds s i) ∧ Below w'.heap.size w' wr ∧ w'.heap.size + 1 ≤ wr.heap.size) (fun k _ => ds.length - (intOf k).toNat)
        case atStart => exact ⟨0, 0, rfl, by omega, mapsTo_made _ _ _ _ _, (Below.refl _ _).alloc (Nat.le_refl _) _, by simp⟩
        case round =>
          obtain ⟨i, n, rfl, hi, hmp, hb, hsz⟩ := hrel
          have hbr := hbw.trans (hb.mono hsw)
          by_cases hlt : i < ds.length
          · obtain ⟨g, o, d, X, cX, hMe, hg, hd, c0, c1, c2, c3, hX⟩ := (hM.below hbr hN).at_ hlt
            subst hMe
            obtain ⟨hw1, hw2⟩ := hkd.out d (List.mem_of_getElem? hd.out)
            have hkey := Lib.hid (key_slot d.s d.q hw1 hw2)
            have hgw : g < wr.heap.size := by omega
            have m2 : MapsTo ((wr.alloc (.cells #[.int .i64 d.s, .int .i64 d.q, .int .i64 d.b, .slice X d.body.length cX] 113)).alloc (.cells #[.int .i64 d.s, .int .i64 d.q] 66)) Try.prog 66 w'.heap.size n vSlot vInt (fun s => firstTo ds s i) := (hmp.alloc _).alloc _
            have hb2 : Below w'.heap.size w' ((wr.alloc (.cells #[.int .i64 d.s, .int .i64 d.q, .int .i64 d.b, .slice X d.body.length cX] 113)).alloc (.cells #[.int .i64 d.s, .int .i64 d.q] 66)) := (hb.alloc (by omega) _).alloc (by simp only [World.size_alloc]; omega) _
            have hlook := m2.look lawSlot vSlot_inj Try.underlying121 (zero3 _) true (d.s, d.q) hkey.out
            clear hw1 hw2 hX
            cases hf : firstTo ds (d.s, d.q) i with
            | some v =>
              have hm3 := m2
              rw [← firstTo_hit hd.out hf] at hm3
              rw [hf] at hlook
              simp only [vSlot, vInt] at hlook
              replace hm3 := Lib.hid hm3
              replace hf := Lib.hid hf
              replace hb2 := Lib.hid hb2
              clear m2 hmp
              go_wp2
              go_roundw
              case rel => go_light; exact ⟨i + 1, n, by go_num, by omega, hm3.out, hb2.out, by simp only [World.size_alloc]; omega⟩
              case measure => go_light; simp [intOf]; omega
            | none =>
              rw [hf] at hlook
              simp only [vSlot, vInt] at hlook
              replace m2 := Lib.hid m2
              replace hf := Lib.hid hf
              replace hb2 := Lib.hid hb2
              clear hmp
              go_wp2_with (at_mapUpdate; refine wpList_put _ rfl (.tmp 62) (.tmp 63) (.tmp 64) 121 rfl 66 3 lawSlot Try.underlying121 w'.heap.size n vSlot vInt vSlot_inj (fun s => firstTo ds s i) rfl m2.out (d.s, d.q) (i : Int) rfl rfl hkey.out ?_)
              intro w6 m6 hg6
              rw [← firstTo_new hd.out hf.out] at m6
              have hb6 := hb2.out.grown hg6 (by simp only [World.size_alloc]; omega) (by intro k hk; injection hk with hk; omega)
              have hs6 := hg6.size
              simp only [World.size_alloc] at hs6
              clear hg6 hlook
              go_wp2
              go_roundw
              case rel => go_light; exact ⟨i + 1, n + 1, by go_num, by omega, m6, hb6, by omega⟩
              case measure => go_light; simp [intOf]; omega
          · obtain rfl : i = ds.length := by omega
            obtain ⟨w5, hw5⟩ : ∃ w5 : World, w5 = wr := ⟨_, rfl⟩
            subst hw5
            have hcb := cut_bound hfit'.out (n := (cut - baseOf fs).toNat) (fun p h1 h2 => hcut'.out.all p h1 (by have := hcut'.out.low; omega))
            have hlow := hcut'.out.low
            have hbn := base_nonneg fs
            have hbl := base_le hfit'.out.sound
            have hub5 := Lib.hid ((hb.block bs hbsl).trans hub.out)
            have hMu5 := Lib.hid (hMu.keep hb hMu.lt)
            have hbu5 : bu < w5.heap.size := hMu5.out.lt
            have hbs5 : bs < w5.heap.size := by omega
            have hmp5 := Lib.hid hmp
            have hbm5 := hmp.lt
            clear hMu hmp hub
            go_wp2
            go_loopw [16, 17] (fun a b wr => ∃ (k : Nat) (B : Option Addr) (c m : Nat) (rs : List Dr), b = .int .i64 (done + 1 + k) ∧ a = .slice B m c ∧ rs.length = m ∧ k ≤ (cut - done).toNat ∧ RestTo F ds done k (rs.map Dr.d) ∧ MsOwn wr w5.heap.size B c rs ∧ m ≤ k ∧ Below w5.heap.size w5 wr) (fun _ b _ => (cut + 1 - intOf b).toNat)
            case atStart => exact ⟨0, none, 0, 0, [], by simp, rfl, rfl, by omega, .nil, ⟨owns_nil _ _ _ _ _, by simp, List.Pairwise.nil⟩, by omega, Below.refl _ _⟩
            case round =>
              obtain ⟨k, B, c, mm, rs, rfl, rfl, hm, hk, hrt, hown, hmk, hb9⟩ := hrel
              have hm' := Lib.hid hm
              have hs9 := hb9.size
              have hbw9 := hbr.trans (hb9.mono (by omega))
              have hcu := blk_cells ((hb9.block bs hbs5).trans hub5.out)
              have u1 := hcu 1
              have u2 := hcu 2
              simp at u1 u2
              replace hrt := Lib.hid hrt
              clear hcu hm
              by_cases hlt : done + 1 + k ≤ cut
              · obtain ⟨⟨x, y⟩, hs, -⟩ := (whole_iff hfit'.out).1 (hcut'.out.all (done + 1 + k) (by omega) hlt)
                have hFk := (hF'.out _ _).2 hs
                obtain ⟨gk, hgk, kk1, kk2, kk3, kk4, _⟩ := known_slot hfit'.out hs
                have hsd := (hfit'.out.sound gk hgk).high
                simp only at kk1 kk2 kk3 kk4
                have hkey := Lib.hid (key_slot x y (WalkArith.wf_i64 (by omega)) (WalkArith.wf_i64 (by omega)))
                have hkeyp := Lib.hid (key_int (done + 1 + (k : Int)) (WalkArith.wf_i64 (by omega)))
                have hMu9 := hMu5.out.keep hb9 hbu5
                have hlookA := hMu9.look lawInt vInt_inj Try.underlying117 (zero66 _) false (done + 1 + (k : Int)) hkeyp.out
                rw [hFk] at hlookA
                simp only [vInt, vSlot] at hlookA
                have hmp9 := (hmp5.out.keep hb9 hbm5).alloc (.cells #[.int .i64 x, .int .i64 y] 66)
                have hlookB := hmp9.look lawSlot vSlot_inj Try.underlying121 (zero3 _) true (x, y) hkey.out
                replace hFk := Lib.hid hFk
                clear hs hgk kk1 kk2 kk3 kk4 hsd hMu9 hmp9
                cases hf : firstTo ds (x, y) ds.length with
                | none =>
                  rw [hf] at hlookB
                  simp only [vSlot, vInt] at hlookB
                  have hRI : RestIs done fs ds [] 81 := by
                    unfold RestIs; rw [if_pos (by omega)]
                    exact .inr (.inr ⟨hL'.out, hfit'.out, hge, cut, F, hcut'.out, hF'.out, .inr ⟨rfl, rfl, k, (x, y), by omega, hFk.out, upto_all (firstTo_some.firstTo_none hf) (Nat.le_refl _)⟩⟩)
                  replace hRI := Lib.hid hRI
                  replace hf := Lib.hid hf
                  go_wp2
                  go_ret2
                  go_light
                  exact rest_none hRI.out (hbw9.alloc (by omega) _)
                | some v =>
                  rw [hf] at hlookB
                  simp only [vSlot, vInt] at hlookB
                  obtain ⟨i, d, rfl, hil, hd, e1, e2, e3⟩ := firstTo_some hf
                  have hFD := Lib.hid (show FirstD ds (x, y) d from ⟨i, hd, e1, e2, e3⟩)
                  obtain ⟨g, o, d', X, cX, hMe, hg, hd', c0, c1, c2, c3, hX⟩ := (hM.below hbw9 hN).at_ hil
                  obtain rfl : d = d' := by have := hd'.out; rw [hd] at this; injection this
                  subst hMe
                  have hgw : g < wr.heap.size := by omega
                  have hs1 := hsm.out.2 d (List.mem_of_getElem? hd)
                  have hil' : (i : Int) < ds.length := by omega
                  replace hf := Lib.hid hf
                  have hdd := Lib.hid hd
                  clear hd e1 e2 e3 hd' c0 c1 c2
                  have hT0 : RestT w5 wr.heap.size #[.int .i64 x, .int .i64 y] (wr.alloc (.cells #[.int .i64 x, .int .i64 y] 66)) := ⟨hb9.alloc (by omega) _, fun i => World.cell?_alloc_at _ _ _ _ rfl, by simp, hs9⟩
                  have hT0d := hT0.drew
                  have hw5X : BodyAt w5 N X cX d.body ∧ w5.cell? ⟨g, o + i * 4 + 3, none⟩ = some (.slice X d.body.length cX) := by
                    obtain ⟨g2, o2, d2, X2, cX2, he, _, hd2, _, _, _, k3, hX2⟩ := (hM.below hbr hN).at_ hil
                    injection he with he; injection he with he1 he2; subst he1 he2
                    have e3 := (hb9.cell (p := ⟨g, o + i * 4 + 3, none⟩) (by show g < _; omega)).trans k3
                    rw [c3] at e3
                    injection e3 with e3; injection e3 with e4 e5 e6
                    obtain rfl : d = d2 := by have := hd2.out; rw [hdd.out] at this; injection this
                    subst e4 e6
                    exact ⟨hX2, k3⟩
                  obtain ⟨hX5, c35⟩ := hw5X
                  have hXr : ∀ W : World, RestT w5 wr.heap.size #[.int .i64 x, .int .i64 y] W → RowAt W N 1 eByte X d.body := fun W h => hX5.row.below h.bel (by omega)
                  have hall : ∀ W : World, RestT w5 wr.heap.size #[.int .i64 x, .int .i64 y] W → (RestT w5 wr.heap.size #[.int .i64 x, .int .i64 y] W ∧ W.cell? ⟨wr.heap.size, 0, none⟩ = some (.int .i64 x) ∧ W.cell? ⟨wr.heap.size, 1, none⟩ = some (.int .i64 y) ∧ W.cell? ⟨g, o + i * 4 + 3, none⟩ = some (.slice X d.body.length cX)) := fun W h => ⟨h, h.box 0, h.box 1, (h.bel.cell (p := ⟨g, _, none⟩) (by show g < _; omega)).trans c35⟩
                  have hszW : ∀ W : World, RestT w5 wr.heap.size #[.int .i64 x, .int .i64 y] W → w5.heap.size ≤ W.heap.size := fun W h => h.bel.size
                  have hlo := hown.row.lo
                  replace hXr := Lib.hid hXr
                  replace hall := Lib.hid hall
                  replace hszW := Lib.hid hszW
                  have hown' := Lib.hid hown
                  clear hX hown hX5 c35
                  go_wp2
                  go_region_held3 (fun W => RestT w5 wr.heap.size #[.int .i64 x, .int .i64 y] W ∧ W.cell? ⟨wr.heap.size, 0, none⟩ = some (.int .i64 x) ∧ W.cell? ⟨wr.heap.size, 1, none⟩ = some (.int .i64 y) ∧ W.cell? ⟨g, o + i * 4 + 3, none⟩ = some (.slice X d.body.length cX))
                    ((refine hall.out _ ?_; first | exact hT0d | exact (‹RestT w5 _ _ _ ∧ _›).1.alloc _ | exact (‹RestT w5 _ _ _ ∧ _›).1.below hb7 | exact (‹RestT w5 _ _ _ ∧ _›).1.grown hg8.out hlo))
                    (first
                      | (refine step_append_rows rfl (.const (.slice none 0 0)) (.tmp 100) 52 rfl w5.heap.size 5 1 1 _ Try.underlying52 info5 rfl (by decide) eByte len_eByte one_eByte none 0 [] X cX N 0 d.body.length d.body rfl rfl rfl rfl (owns_nil _ _ _ _ _) (hXr.out _ (‹RestT w5 _ _ _ ∧ _›).1) (by omega) (by omega) (hszW.out _ (‹RestT w5 _ _ _ ∧ _›).1) ?_; intro A1 cc1 w7 ho7 hg7 hk7; have hb7 := (Below.refl _ _).grown hg7 (Nat.le_refl _) (by intro k hk; cases hk); have hb7w : Below wr.heap.size wr w7 := (Below.drew ((Below.refl wr.heap.size wr).alloc (Nat.le_refl _) (.cells #[.int .i64 x, .int .i64 y] 66))).trans (hb7.mono (by simp)); rw [Nat.zero_add]; replace ho7 := Lib.hid ho7; replace hk7 := Lib.hid hk7)
                      | (refine step_append_rows rfl (.tmp 90) (.tmp 103) 44 rfl w5.heap.size 54 4 48 _ Try.underlying44 info54 rfl (by decide) eDr len_eDr one_eDr B c rs (some ⟨w7.heap.size, 0, none⟩) 1 (w7.heap.size + 1) mm 1 [⟨⟨done + 1 + k, x, y, d.body⟩, A1, cc1⟩] rfl rfl hm'.out rfl ((hown'.out.row.keep hb7w (fun k hk => (hlo k hk).2)).alloc _) (row_new _ _ _ _ _ _ rfl) (by omega) (by omega) (hszW.out _ (‹RestT w5 _ _ _ ∧ _›).1) ?_; intro A8 c8 w8 ho8 hg8 hk8; replace ho8 := Lib.hid ho8; replace hg8 := Lib.hid hg8))
                  have hbl := (‹RestT w5 _ _ _ ∧ _›).1.bel
                  have hA1 : ∀ j, blk A1 = some j → wr.heap.size ≤ j := fun j hj => by
                    rcases hk7.out with h | h
                    · rw [h] at hj; cases hj
                    · rw [h] at hj; injection hj with hj; rw [← hj]; simp
                  have hM8 := MsOwn.snoc (d := ⟨done + 1 + k, x, y, d.body⟩) hown'.out hb7w ho7.out hA1 hg8.out ho8.out
                  have hrt8 : RestTo F ds done (k + 1) ((rs ++ [(⟨⟨done + 1 + k, x, y, d.body⟩, A1, cc1⟩ : Dr)]).map Dr.d) := by
                    rw [List.map_append]; exact RestTo.snoc hrt.out hFk.out hFD.out
                  have hl8 : (rs ++ [(⟨⟨done + 1 + k, x, y, d.body⟩, A1, cc1⟩ : Dr)]).length = mm + 1 := by rw [List.length_append, hm'.out]; rfl
                  replace hM8 := Lib.hid hM8
                  replace hrt8 := Lib.hid hrt8
                  replace hl8 := Lib.hid hl8
                  clear hA1 hb7 hb7w hlookA hlookB u1 u2
                  go_wp2
                  go_roundw
                  case rel => go_light; exact ⟨k + 1, A8, c8, mm + 1, _, by rw [show ((k + 1 : Nat) : Int) = k + 1 by omega]; congr 1; omega, rfl, hl8.out, by omega, hrt8.out, hM8.out, by omega, hbl⟩
                  case measure => go_light; simp [intOf]; omega
              · have hke : k = (cut - done).toNat := by omega
                subst hke
                have hRI : RestIs done fs ds (rs.map Dr.d) 0 := by
                  unfold RestIs; rw [if_pos (by omega)]
                  exact .inr (.inr ⟨hL'.out, hfit'.out, hge, cut, F, hcut'.out, hF'.out, .inl ⟨rfl, hrt.out⟩⟩)
                have hO := hown.lower (base' := w.heap.size) (by omega)
                replace hRI := Lib.hid hRI
                replace hO := Lib.hid hO
                clear hown
                rw [← hm'.out]
                go_wp2
                go_ret2
                go_light
                exact ⟨⟨B, c, rs, 0, rfl, hRI.out, hO.out⟩, hbw9⟩
end Go.Proofs.Ytcffhfcjfjfokaa
/- The law's msgs: messages that were handed out go into the book, with their bytes. -/
namespace Go.Proofs.Ytcffhfcjfjfokaa
open Go Go.RowKit
theorem getElem?_map_take {α β : Type} {l : List α} {f : α → β} {i : Nat} {r : α} (h : l[i]? = some r) : (l.take i).map f ++ [f r] = (l.take (i + 1)).map f := by
  rw [List.take_add_one, h]; simp
def C2 (a b o1 o2 : Nat) (u v : Value) (W : World) : Prop := W.cell? ⟨a, o1, none⟩ = some u ∧ W.cell? ⟨b, o2, none⟩ = some v
theorem msOwn_apart {W : World} {base : Nat} {B : Option Addr} {c : Nat} {rs : List Dr} {i : Nat} {r s : Dr} (M : MsOwn W base B c rs) (hr : rs[i]? = some r) (hs : s ∈ rs.take i) : ∀ q, blk (bodyR s).A = some q → blk (bodyR r).A ≠ some q := fun q h1 h2 => by
  obtain ⟨j, hj⟩ := List.mem_iff_getElem?.1 hs
  have hjl := (List.getElem?_eq_some_iff.1 hj).1
  rw [List.length_take] at hjl
  rw [List.getElem?_take_of_lt (by omega)] at hj
  have hi := (List.getElem?_eq_some_iff.1 hr)
  have hj' := (List.getElem?_eq_some_iff.1 hj)
  have := List.pairwise_iff_getElem.1 M.sep j i hj'.1 hi.1 (by omega)
  rw [hj'.2, hi.2] at this
  rcases this with e | e
  · rw [show blk s.B = blk (bodyR s).A from rfl, h1] at e; cases e
  · exact e (h1.trans h2.symm)
set_option maxRecDepth 100000 in
set_option maxHeartbeats 4000000 in
theorem msgs96_any {w : World} {base hb : Nat} {x : BX} {o : List Value} {B : Option Addr} {cB : Nat} {rs : List Dr} (h : Bo w base hb x o) (hol : o.length = 4) (qy : x.y.Q = []) (qm : x.m.Q = []) (M : MsOwn w base B cB rs) (ay : ∀ r ∈ rs, ∀ y ∈ x.y.P, ∀ q, blk y.A = some q → blk r.B ≠ some q) (am : ∀ y ∈ x.m.P, ∀ q, blk y.A = some q → blk B ≠ some q) (hrl : rs.length ≤ 1048576) (hly : x.y.P.length ≤ 900000000000) (hlm : x.m.P.length ≤ 900000000000) : Calls Try.prog 96 #[.pointer (some ⟨hb, 0, none⟩), .slice B rs.length cB] w fun e w' => e = .returned (.tuple #[]) ∧ Fx (hb :: ((blk x.y.L).toList ++ (blk x.m.L).toList)) w w' ∧ Below hb w w' ∧ ∃ Ly cLy Lm cLm, Bo w' base hb { x with y := { x.y with L := Ly, cL := cLy, P := x.y.P ++ rs.map bodyR }, m := { x.m with L := Lm, cL := cLm, P := x.m.P ++ [⟨B, cB, rs⟩] } } o := by
  refine calls_vc tab_ok Try.func96 rfl ?_
  have hz := h.hz
  have hbz := h.z
  repeat (conv => whnf
          first
          | (refine VCmp.tt (by omega) ?_)
          | (refine VCmp.ff (by omega) ?_)
          | (refine VIn.mk (IntWalk.i64_in _ (by omega)) ?_)
          | (refine VIdx.mk _ rfl (by omega) ?_)
          | (refine VIdx.mk 0 rfl (by omega) ?_))
  try (conv => whnf)
  refine VLoop.mk (Nat × Option Addr × Nat) (fun u => [(0, .pointer (some ⟨hb, 0, none⟩)), (1, .slice B rs.length cB), (4, .int .i64 u.1)]) (fun u W => u.1 ≤ rs.length ∧ Below hb w W ∧ Fx (hb :: ((blk x.y.L).toList ++ (blk x.m.L).toList)) w W ∧ (∀ q, blk u.2.1 = some q → blk x.y.L = some q ∨ w.heap.size ≤ q) ∧ MsOwn W base B cB rs ∧ Bo W base hb { x with y := { x.y with L := u.2.1, cL := u.2.2, P := x.y.P ++ (rs.take u.1).map bodyR } } o) (fun u => rs.length - u.1) (0, x.y.L, x.y.cL) ⟨rfl, rfl, rfl, trivial⟩ ⟨Nat.zero_le _, Below.refl _ _, Fx.refl _ _, fun q hq => .inl hq, M, by dsimp only; rw [List.take_zero, List.map_nil, List.append_nil]; exact h⟩ ?_
  rintro ⟨i, L, cL⟩ wr ⟨hi, bw, fw, fl, M1, B1⟩
  dsimp only at hi fl M1 B1 ⊢
  have zw := bw.size
  by_cases hil : i < rs.length
  case pos =>
    obtain ⟨r, hri⟩ : ∃ r, rs[i]? = some r := ⟨_, List.getElem?_eq_getElem hil⟩
    have hrm := List.mem_of_getElem? hri
    have bd : Below wr.heap.size wr wr.drew := (Below.refl _ _).drew
    have Bd := B1.below bd
    have Md := M1.row.keep bd fun k hk => (M1.row.lo k hk).2
    obtain ⟨gB, hgB, hcB⟩ := Md.cell len_eDr hri
    subst hgB
    have hPl : (x.y.P ++ (rs.take i).map bodyR).length = x.y.P.length + i := by rw [List.length_append, List.length_map, List.length_take]; omega
    have L1 : Ld Try.prog 51 hb 0 (C2 hb gB 0 (i * 4 + 3) (.slice L (x.y.P ++ (rs.take i).map bodyR).length cL) (.slice r.B r.d.body.length r.c)) (.slice L (x.y.P ++ (rs.take i).map bodyR).length cL) := ⟨fun W hW => load_cell (by kernel_rfl) hW.1⟩
    have L2 : Ld Try.prog 52 gB (0 + i * 4 + 3) (C2 hb gB 0 (i * 4 + 3) (.slice L (x.y.P ++ (rs.take i).map bodyR).length cL) (.slice r.B r.d.body.length r.c)) (.slice r.B r.d.body.length r.c) := ⟨fun W hW => by rw [Nat.zero_add]; exact load_cell (by kernel_rfl) hW.2⟩
    have hCd : C2 hb gB 0 (i * 4 + 3) (.slice L (x.y.P ++ (rs.take i).map bodyR).length cL) (.slice r.B r.d.body.length r.c) wr.drew := ⟨Bd.r 0 _ rfl, hcB 3 _ rfl⟩
    have gBlo := M1.row.lo gB rfl
    repeat (conv => whnf
            first
            | (refine VCmp.tt (by omega) ?_)
            | (refine VCmp.ff (by omega) ?_)
            | (refine VIn.mk (IntWalk.i64_in _ (by omega)) ?_)
            | (refine VIdx.mk _ rfl (by omega) ?_)
            | (refine VIdx.mk 0 rfl (by omega) ?_))
    try (conv => whnf)
    refine VDraw.mk 14 [([0, 1, 2, 3, 4, 5, 6, 7, 8, 9], 10), ([], 11), ([12, 13], 14)] [] (C2 hb gB 0 (i * 4 + 3) (.slice L (x.y.P ++ (rs.take i).map bodyR).length cL) (.slice r.B r.d.body.length r.c)) (by kernel_rfl) (by kernel_rfl) (hCd) ?_
    repeat (conv => whnf
            first
            | (refine VLoad.mk _ L1 ?_)
            | (refine VLoad.mk _ L2 ?_)
            | (refine VCmp.tt (by omega) ?_)
            | (refine VCmp.ff (by omega) ?_)
            | (refine VIn.mk (IntWalk.i64_in _ (by omega)) ?_)
            | (refine VIdx.mk _ rfl (by omega) ?_)
            | (refine VIdx.mk 0 rfl (by omega) ?_))
    try (conv => whnf)
    refine VBs.mk _ _ (bs51 wr.drew r.B r.d.body.length r.c) ?_
    have c1 : Below wr.drew.heap.size wr.drew (wr.drew.alloc (.cells #[.slice r.B r.d.body.length r.c] 52)) := (Below.refl _ _).alloc (Nat.le_refl _) _
    have hr1 := row_new wr.drew 52 1 eTr (rowT (bodyR r)) #[.slice r.B r.d.body.length r.c] rfl
    have zd : wr.drew.heap.size = wr.heap.size := rfl
    generalize wr.drew.alloc (.cells #[.slice r.B r.d.body.length r.c] 52) = w1 at c1 hr1 ⊢
    have z1 := c1.size
    have hl1 := Bd.y.l.keep c1 fun k hk => (Bd.y.l.lo k hk).2
    have hC1 : C2 hb gB 0 (i * 4 + 3) (.slice L (x.y.P ++ (rs.take i).map bodyR).length cL) (.slice r.B r.d.body.length r.c) w1 := ⟨(c1.cell (p := ⟨hb, 0, none⟩) (by show hb < _; omega)).trans hCd.1, (c1.cell (p := ⟨gB, i * 4 + 3, none⟩) (by show gB < _; omega)).trans hCd.2⟩
    repeat (conv => whnf
            first
            | (refine VS.mk hC1 ?_)
            | (refine VCmp.tt (by omega) ?_)
            | (refine VCmp.ff (by omega) ?_)
            | (refine VIn.mk (IntWalk.i64_in _ (by omega)) ?_)
            | (refine VIdx.mk _ rfl (by omega) ?_)
            | (refine VIdx.mk 0 rfl (by omega) ?_))
    try (conv => whnf)
    refine VApp.rows base 1 24 _ Try.underlying51 info52z rfl (by decide) eTr len_eTr one_eTr ((x.y.P ++ (rs.take i).map bodyR).map rowT) [rowT (bodyR r)] (by rw [List.length_map]) rfl hl1 hr1 (by omega) (by omega) (by omega) fun L2 cL2 w2 ho2 hg2 hk2 => ?_
    have hs2 : ∀ q, q < wr.heap.size → blk L ≠ some q → w2.heap[q]? = wr.heap[q]? := fun q h1 h2 => (hg2.block q (by omega) (fun e => h2 e.symm)).trans (c1.block q (by omega))
    have hne : blk L ≠ some gB := fun e => by
      rcases Bd.y.l.ne (M1.row.keep bd fun k hk => (M1.row.lo k hk).2) (by decide) with e1 | e1
      · rw [e1] at e; cases e
      · exact e1 e
    have hnb : blk L ≠ some hb := fun e => by have := (Bd.y.l.lo hb e).1; omega
    have hC2 : C2 hb gB 0 (i * 4 + 3) (.slice L (x.y.P ++ (rs.take i).map bodyR).length cL) (.slice r.B r.d.body.length r.c) w2 := ⟨(World.cell?_of_block (a := ⟨hb, 0, none⟩) (hs2 hb (by omega) hnb)).trans hCd.1, (World.cell?_of_block (a := ⟨gB, i * 4 + 3, none⟩) (hs2 gB gBlo.2 hne)).trans hCd.2⟩
    have t2 := there_same B1.t (hs2 hb (by omega) hnb)
    repeat (conv => whnf
            first
            | (refine VS.mk hC2 ?_)
            | (refine VCmp.tt (by omega) ?_)
            | (refine VCmp.ff (by omega) ?_)
            | (refine VIn.mk (IntWalk.i64_in _ (by omega)) ?_)
            | (refine VIdx.mk _ rfl (by omega) ?_)
            | (refine VIdx.mk 0 rfl (by omega) ?_))
    try (conv => whnf)
    refine VStore.cell (by kernel_rfl) (t2 0 (by omega)).1 (t2 0 (by omega)).2 rfl rfl fun w3 hw3 => ?_
    have g3 : w2.grownBy w3 (some hb) := by rw [hw3.out]; exact grown_cell _ _ _ _
    have bd1 : Below wr.heap.size wr w1 := bd.trans c1
    have hry := Md.keep c1 fun k hk => (Md.lo k hk).2
    have B3 := Bd.push_y hol qy (R := [bodyR r]) (m := x.y.P.length + i + 1) c1 (fun r' hr' => by
      obtain rfl := List.mem_singleton.1 hr'
      exact (M1.each r hrm).keep bd1 fun k hk => ((M1.each r hrm).lo k hk).2) (fun r' hr' y hy => by
      obtain rfl := List.mem_singleton.1 hr'
      rcases List.mem_append.1 hy with hy | hy
      · exact ay r hrm y hy
      · obtain ⟨s, hs, rfl⟩ := List.mem_map.1 hy
        exact msOwn_apart M1 hri hs) (sep_one _) (by rw [hPl]; rfl) ho2 hg2 hk2
    have past : ∀ {α : Type} {sz c : Nat} {e : TypeId} {enc : α → List Value} {A : Option Addr} {l : List α}, e ≠ 52 → Owns wr base e sz enc A c l → Owns w3 base e sz enc A c l := fun he h => h.past bd1 hl1 he hg2 g3 hz
    have M3 : MsOwn w3 base (some ⟨gB, 0, none⟩) cB rs := ⟨past (by decide) M1.row, fun r hr => past (by decide) (M1.each r hr), M1.sep⟩
    have b3 : Below hb w w3 := ((bw.trans (bd1.mono (by omega))).grown hg2 (by omega) (fun q hq => by have := (hl1.lo q hq).1; omega)).grown g3 (by have := hg2.size; omega) (fun q hq => by injection hq with hq; omega)
    have f3 : Fx (hb :: ((blk x.y.L).toList ++ (blk x.m.L).toList)) w w3 := ((fw.trans (.below (S := []) bd1) fun q hq => (by cases hq)).trans (.grown (S := (blk L).toList) hg2 fun q hq => by rw [hq]; simp) fun q hq => (fl q (by simpa [Option.mem_toList] using hq)).imp (fun e => List.mem_cons_of_mem _ (List.mem_append.2 (.inl (by rw [e]; simp)))) id).trans (.grown (S := [hb]) g3 fun q hq => by injection hq with hq; subst hq; exact List.mem_singleton.2 rfl) fun q hq => .inl (by obtain rfl := List.mem_singleton.1 hq; exact List.mem_cons_self ..)
    have fl3 : ∀ q, blk L2 = some q → blk x.y.L = some q ∨ w.heap.size ≤ q := fun q hq => by
      rcases hk2 with e | e
      · exact fl q (e ▸ hq)
      · right; rw [e] at hq; injection hq with hq; have := fw.size; omega
    repeat (conv => whnf
            first
            | (refine VS.last rfl ?_)
            | (refine VCmp.tt (by omega) ?_)
            | (refine VCmp.ff (by omega) ?_)
            | (refine VIn.mk (IntWalk.i64_in _ (by omega)) ?_)
            | (refine VIdx.mk _ rfl (by omega) ?_)
            | (refine VIdx.mk 0 rfl (by omega) ?_))
    try (conv => whnf)
    refine .mk (i + 1, L2, cL2) ⟨rfl, rfl, rfl, trivial⟩ ⟨hil, b3, f3, fl3, M3, ?_⟩ (by show _ - (i + 1) < _ - i; omega)
    dsimp only
    rw [← getElem?_map_take hri, ← List.append_assoc]
    have e3 := hw3.out
    rw [hPl] at e3
    rw [e3]
    exact B3
  case neg =>
    have hie : i = rs.length := by omega
    subst hie
    rw [List.take_length] at B1
    have L1 : Ld Try.prog 103 hb 10 (Eq wr) (.slice x.m.L x.m.P.length x.m.cL) := .of (load_cell (by kernel_rfl) (B1.r 10 _ rfl))
    repeat (conv => whnf
            first
            | (refine VLoad.mk _ L1 ?_)
            | (refine VCmp.tt (by omega) ?_)
            | (refine VCmp.ff (by omega) ?_)
            | (refine VIn.mk (IntWalk.i64_in _ (by omega)) ?_)
            | (refine VIdx.mk _ rfl (by omega) ?_)
            | (refine VIdx.mk 0 rfl (by omega) ?_))
    try (conv => whnf)
    refine VBs.mk _ _ (bs103 wr B rs.length cB) ?_
    have c1 : Below wr.heap.size wr (wr.alloc (.cells #[.slice B rs.length cB] 44)) := (Below.refl _ _).alloc (Nat.le_refl _) _
    have hr1 := row_new wr 44 1 eTr (B, rs.length, cB) #[.slice B rs.length cB] rfl
    generalize wr.alloc (.cells #[.slice B rs.length cB] 44) = w1 at c1 hr1 ⊢
    have z1 := c1.size
    have hl1 := B1.m.l.keep c1 fun k hk => (B1.m.l.lo k hk).2
    repeat (conv => whnf
            first
            | (refine VCmp.tt (by omega) ?_)
            | (refine VCmp.ff (by omega) ?_)
            | (refine VIn.mk (IntWalk.i64_in _ (by omega)) ?_)
            | (refine VIdx.mk _ rfl (by omega) ?_)
            | (refine VIdx.mk 0 rfl (by omega) ?_))
    try (conv => whnf)
    refine VApp.rows base 1 24 _ Try.underlying103 info44z rfl (by decide) eTr len_eTr one_eTr (x.m.P.map rowT) [(B, rs.length, cB)] (by rw [List.length_map]) rfl hl1 hr1 (by omega) (by omega) (by omega) fun L2 cL2 w2 ho2 hg2 hk2 => ?_
    have hs2 : w2.heap[hb]? = wr.heap[hb]? := (hg2.block hb (by omega) (fun e => by have := (hl1.lo hb e.symm).1; omega)).trans (c1.block hb (by omega))
    have t2 := there_same B1.t hs2
    repeat (conv => whnf
            first
            | (refine VCmp.tt (by omega) ?_)
            | (refine VCmp.ff (by omega) ?_)
            | (refine VIn.mk (IntWalk.i64_in _ (by omega)) ?_)
            | (refine VIdx.mk _ rfl (by omega) ?_)
            | (refine VIdx.mk 0 rfl (by omega) ?_))
    try (conv => whnf)
    refine VStore.cell (by kernel_rfl) (t2 10 (by omega)).1 (t2 10 (by omega)).2 rfl rfl fun w3 hw3 => ?_
    have B3 := B1.push_m hol qm (R := [⟨B, cB, rs⟩]) (m := x.m.P.length + 1) c1 (fun r' hr' => by
      obtain rfl := List.mem_singleton.1 hr'
      exact M1.row.keep c1 fun k hk => (M1.row.lo k hk).2) (fun r' hr' y hy => by
      obtain rfl := List.mem_singleton.1 hr'
      exact am y hy) (sep_one _) rfl ho2 hg2 hk2
    have b3 : Below hb w w3 := by
      rw [hw3.out]
      exact ((bw.trans (c1.mono (by omega))).grown hg2 (by omega) (fun q hq => by have := (hl1.lo q hq).1; omega)).setCell (Nat.le_refl hb) _
    repeat (conv => whnf
            first
            | (refine VCmp.tt (by omega) ?_)
            | (refine VCmp.ff (by omega) ?_)
            | (refine VIn.mk (IntWalk.i64_in _ (by omega)) ?_)
            | (refine VIdx.mk _ rfl (by omega) ?_)
            | (refine VIdx.mk 0 rfl (by omega) ?_))
    try (conv => whnf)
    have f3 : Fx (hb :: ((blk x.y.L).toList ++ (blk x.m.L).toList)) w w3 := ((fw.trans (.below (S := []) c1) fun q hq => (by cases hq)).trans (.grown (S := (blk x.m.L).toList) hg2 fun q hq => by rw [hq]; simp) fun q hq => .inl (List.mem_cons_of_mem _ (List.mem_append.2 (.inr hq)))).trans (.grown (S := [hb]) (by rw [hw3.out]; exact grown_cell _ _ _ _) fun q hq => by injection hq with hq; subst hq; exact List.mem_singleton.2 rfl) fun q hq => .inl (by obtain rfl := List.mem_singleton.1 hq; exact List.mem_cons_self ..)
    exact .mk ⟨rfl, f3, b3, L, cL, L2, cL2, by rw [hw3.out]; exact B3⟩
end Go.Proofs.Ytcffhfcjfjfokaa
/- A new book; the blocks of a book. -/
namespace Go.Proofs.Ytcffhfcjfjfokaa
open Go Go.RowKit
def kx0 {α : Type} : KX α := ⟨none, 0, [], none, 0, []⟩
def bx0 : BX := ⟨kx0, kx0, kx0, kx0, kx0, kx0⟩
def o0 : List Value := [.slice none 0 0, .slice none 0 0, .slice none 0 0, .slice none 0 0]
def held0 : Array Value := #[.slice none 0 0, .slice none 0 0, .slice none 0 0, .slice none 0 0, .slice none 0 0, .slice none 0 0, .slice none 0 0, .slice none 0 0, .slice none 0 0, .slice none 0 0, .slice none 0 0, .slice none 0 0, .slice none 0 0, .slice none 0 0, .slice none 0 0, .slice none 0 0]
theorem bld105 (W : World) : (Instr.build 105 #[]).run Try.prog W = .ok (.agg held0) W := by kernel_rfl
theorem kb0 {α : Type} (W : World) (base : Nat) (tl e : TypeId) (sz : Nat) (enc : α → List Value) (zs : Nat → List α) : Kb W base tl e sz enc zs kx0 :=
  ⟨⟨fun r hr => (by cases hr), fun k x y hx => (by simp [kx0] at hx), fun k j x y _ hx => (by simp [kx0] at hx), fun k j x y _ hx => (by simp [kx0] at hx), Nat.le_refl _⟩, owns_nil _ _ _ _ _, owns_nil _ _ _ _ _, fun q hq => (by cases hq)⟩
theorem bo_new (w : World) : Bo (w.alloc (.cells held0 105)) (w.heap.size + 1) w.heap.size bx0 o0 := by
  have z : (w.alloc (.cells held0 105)).heap.size = w.heap.size + 1 := by simp
  exact ⟨kb0 _ _ _ _ _ _ _, kb0 _ _ _ _ _ _ _, kb0 _ _ _ _ _ _ _, kb0 _ _ _ _ _ _ _, kb0 _ _ _ _ _ _ _, kb0 _ _ _ _ _ _ _, range_new w held0 105, there_new w held0 105, Nat.lt_succ_self _, by omega⟩
/-- The blocks of the book. -/
def kxS {α : Type} (x : KX α) : List Nat := (blk x.L).toList ++ ((blk x.M).toList ++ x.P.flatMap fun r => (blk r.A).toList)
def bkS (x : BX) (hb : Nat) : List Nat := hb :: (kxS x.y ++ (kxS x.i ++ (kxS x.s ++ (kxS x.f ++ (kxS x.d ++ kxS x.m)))))
theorem kxIn_of {α : Type} {x : KX α} {S : List Nat} (h : ∀ q ∈ kxS x, q ∈ S) : KxIn x S :=
  ⟨fun r hr q hq => h q (List.mem_append.2 (.inr (List.mem_append.2 (.inr (List.mem_flatMap.2 ⟨r, hr, by rw [hq]; simp⟩))))), fun q hq => h q (List.mem_append.2 (.inl (by rw [hq]; simp))), fun q hq => h q (List.mem_append.2 (.inr (List.mem_append.2 (.inl (by rw [hq]; simp)))))⟩
theorem bkIn_bkS (x : BX) (hb : Nat) : BkIn x (bkS x hb) := by
  refine ⟨kxIn_of fun q hq => ?_, kxIn_of fun q hq => ?_, kxIn_of fun q hq => ?_, kxIn_of fun q hq => ?_, kxIn_of fun q hq => ?_, kxIn_of fun q hq => ?_⟩ <;> simp [bkS, hq]
theorem Kb.kxS {α : Type} {W : World} {base sz : Nat} {tl e : TypeId} {enc : α → List Value} {zs : Nat → List α} {x : KX α} (h : Kb W base tl e sz enc zs x) : ∀ q ∈ kxS x, base ≤ q ∧ q < W.heap.size := fun q hq => by
  rcases List.mem_append.1 hq with hq | hq
  · exact h.l.lo q (by simpa [Option.mem_toList] using hq)
  · rcases List.mem_append.1 hq with hq | hq
    · exact h.m.lo q (by simpa [Option.mem_toList] using hq)
    · obtain ⟨r, hr, hq⟩ := List.mem_flatMap.1 hq
      exact (h.k.o r hr).lo q (by simpa [Option.mem_toList] using hq)
theorem Bo.bks {W : World} {base hb : Nat} {x : BX} {o : List Value} (h : Bo W base hb x o) : ∀ q ∈ bkS x hb, hb ≤ q ∧ q < W.heap.size := fun q hq => by
  have hz := h.hz
  have hz2 := h.z
  rcases List.mem_cons.1 hq with rfl | hq
  · omega
  have key : base ≤ q ∧ q < W.heap.size := by
    rcases List.mem_append.1 hq with hq | hq
    · exact h.y.kxS q hq
    rcases List.mem_append.1 hq with hq | hq
    · exact h.i.kxS q hq
    rcases List.mem_append.1 hq with hq | hq
    · exact h.s.kxS q hq
    rcases List.mem_append.1 hq with hq | hq
    · exact h.f.kxS q hq
    rcases List.mem_append.1 hq with hq | hq
    · exact h.d.kxS q hq
    · exact h.m.kxS q hq
  omega
end Go.Proofs.Ytcffhfcjfjfokaa
/- The four lists of FlushPlace in one memory: contents, one content, numbers, messages. -/
namespace Go.Proofs.Ytcffhfcjfjfokaa
open Go Go.RowKit
structure RX where
  A : Option Addr
  cA : Nat
  ra : List Rw
  O : Option Addr
  cO : Nat
  ro : List Rw
  C : Option Addr
  cC : Nat
  lc : List Int
  M : Option Addr
  cM : Nat
  rm : List Dr
def Dj (F G : List Nat) : Prop := ∀ k ∈ F, k ∉ G
theorem Dj.step {F F' G : List Nat} {w : World} (h : Dj F G) (hG : ∀ k ∈ G, k < w.heap.size) (hF : ∀ k ∈ F', k ∈ F ∨ w.heap.size ≤ k) : Dj F' G := fun k hk hg => by
  rcases hF k hk with e | e
  · exact h k e hg
  · have := hG k hg; omega
theorem Dj.symm {F G : List Nat} (h : Dj F G) : Dj G F := fun k hk hf => h k hf hk
theorem Dj.new {F G : List Nat} {n : Nat} (hF : ∀ k ∈ F, k < n) (hG : ∀ k ∈ G, n ≤ k) : Dj F G := fun k hk hg => by have := hF k hk; have := hG k hg; omega
/-- The four lists; block b (that of the case in hand) holds vs and is none of theirs. -/
structure Room (base b : Nat) (vs : List Value) (x : RX) (W : World) : Prop where
  z : base ≤ W.heap.size
  a : FsW W base x.A x.cA x.ra
  o : FsW W base x.O x.cO x.ro
  c : Owns W base 3 1 eInt x.C x.cC x.lc
  m : MsW W base x.M x.cM x.rm
  ao : Dj (fblks x.A x.ra) (fblks x.O x.ro)
  ac : Dj (fblks x.A x.ra) (blk x.C).toList
  am : Dj (fblks x.A x.ra) (mblks x.M x.rm)
  oc : Dj (fblks x.O x.ro) (blk x.C).toList
  om : Dj (fblks x.O x.ro) (mblks x.M x.rm)
  cm : Dj (blk x.C).toList (mblks x.M x.rm)
  bz : b < W.heap.size
  r : W.rangeAt b 0 vs
  ba : b ∉ fblks x.A x.ra
  bo : b ∉ fblks x.O x.ro
  bc : b ∉ (blk x.C).toList
  bm : b ∉ mblks x.M x.rm
section
variable {base b : Nat} {vs : List Value} {x : RX} {W W' : World}
theorem Room.clt (h : Room base b vs x W) : ∀ k ∈ (blk x.C).toList, base ≤ k ∧ k < W.heap.size := fun k hk => h.c.lo k (by simpa [Option.mem_toList] using hk)
theorem Room.below (h : Room base b vs x W) (hb : Below W.heap.size W W') : Room base b vs x W' :=
  ⟨Nat.le_trans h.z hb.size, h.a.below hb, h.o.below hb, h.c.keep hb fun k hk => (h.c.lo k hk).2, h.m.below hb, h.ao, h.ac, h.am, h.oc, h.om, h.cm, Nat.lt_of_lt_of_le h.bz hb.size, range_same h.r (hb.block b h.bz), h.ba, h.bo, h.bc, h.bm⟩
theorem Room.drew (h : Room base b vs x W) : Room base b vs x W.drew := h.below (Below.refl _ _).drew
/-- Another block is taken for the case in hand. -/
theorem Room.other (h : Room base b vs x W) {b' : Nat} {vs' : List Value} (hz : b' < W.heap.size) (hr : W.rangeAt b' 0 vs') (hn : b' < base) : Room base b' vs' x W :=
  ⟨h.z, h.a, h.o, h.c, h.m, h.ao, h.ac, h.am, h.oc, h.om, h.cm, hz, hr, fun hm => by have := (h.a.blks b' hm).1; omega, fun hm => by have := (h.o.blks b' hm).1; omega, fun hm => by have := (h.clt b' hm).1; omega, fun hm => by have := (h.m.blks b' hm).1; omega⟩
theorem Room.fresh (h : Room base b vs x W) (hb : Below W.heap.size W W') {b' : Nat} {vs' : List Value} (hz : b' < W'.heap.size) (hr : W'.rangeAt b' 0 vs') (hn : W.heap.size ≤ b') : Room base b' vs' x W' :=
  ⟨Nat.le_trans h.z hb.size, h.a.below hb, h.o.below hb, h.c.keep hb fun k hk => (h.c.lo k hk).2, h.m.below hb, h.ao, h.ac, h.am, h.oc, h.om, h.cm, hz, hr, fun hm => by have := (h.a.blks b' hm).2; omega, fun hm => by have := (h.o.blks b' hm).2; omega, fun hm => by have := (h.clt b' hm).2; omega, fun hm => by have := (h.m.blks b' hm).2; omega⟩
theorem Room.setA (h : Room base b vs x W) {rs : List Rw} (hf : Fx (fblks x.A x.ra) W W') (ho : FsW W' base x.A x.cA rs) (hk : ∀ k ∈ fblks x.A rs, k ∈ fblks x.A x.ra ∨ W.heap.size ≤ k) : Room base b vs { x with ra := rs } W' :=
  ⟨Nat.le_trans h.z hf.size, ho, h.o.fx hf h.ao.symm, h.c.fx hf fun k hk' => h.ac.symm k (by rw [hk']; simp), h.m.fx hf h.am.symm, h.ao.step (fun k hk' => (h.o.blks k hk').2) hk, h.ac.step (fun k hk' => (h.clt k hk').2) hk, h.am.step (fun k hk' => (h.m.blks k hk').2) hk, h.oc, h.om, h.cm,
    Nat.lt_of_lt_of_le h.bz hf.size, range_same h.r (hf.block b h.bz h.ba), fun hm => by
      rcases hk b hm with e | e
      · exact h.ba e
      · have := h.bz; omega, h.bo, h.bc, h.bm⟩
theorem Room.setO (h : Room base b vs x W) {rs : List Rw} (hf : Fx (fblks x.O x.ro) W W') (ho : FsW W' base x.O x.cO rs) (hk : ∀ k ∈ fblks x.O rs, k ∈ fblks x.O x.ro ∨ W.heap.size ≤ k) : Room base b vs { x with ro := rs } W' :=
  ⟨Nat.le_trans h.z hf.size, h.a.fx hf h.ao, ho, h.c.fx hf fun k hk' => h.oc.symm k (by rw [hk']; simp), h.m.fx hf h.om.symm, (h.ao.symm.step (fun k hk' => (h.a.blks k hk').2) hk).symm, h.ac, h.am, h.oc.step (fun k hk' => (h.clt k hk').2) hk, h.om.step (fun k hk' => (h.m.blks k hk').2) hk, h.cm,
    Nat.lt_of_lt_of_le h.bz hf.size, range_same h.r (hf.block b h.bz h.bo), h.ba, fun hm => by
      rcases hk b hm with e | e
      · exact h.bo e
      · have := h.bz; omega, h.bc, h.bm⟩
theorem Room.setC (h : Room base b vs x W) {C : Option Addr} {cC : Nat} {l : List Int} (hf : Fx (blk x.C).toList W W') (ho : Owns W' base 3 1 eInt C cC l) (hk : ∀ k ∈ (blk C).toList, k ∈ (blk x.C).toList ∨ W.heap.size ≤ k) : Room base b vs { x with C := C, cC := cC, lc := l } W' :=
  ⟨Nat.le_trans h.z hf.size, h.a.fx hf h.ac, h.o.fx hf h.oc, ho, h.m.fx hf h.cm.symm, h.ao, (h.ac.symm.step (fun k hk' => (h.a.blks k hk').2) hk).symm, h.am, (h.oc.symm.step (fun k hk' => (h.o.blks k hk').2) hk).symm, h.om, h.cm.step (fun k hk' => (h.m.blks k hk').2) hk,
    Nat.lt_of_lt_of_le h.bz hf.size, range_same h.r (hf.block b h.bz h.bc), h.ba, h.bo, fun hm => by
      rcases hk b hm with e | e
      · exact h.bc e
      · have := h.bz; omega, h.bm⟩
theorem Room.setM (h : Room base b vs x W) {rs : List Dr} (hf : Fx (mblks x.M x.rm) W W') (ho : MsW W' base x.M x.cM rs) (hk : ∀ k ∈ mblks x.M rs, k ∈ mblks x.M x.rm ∨ W.heap.size ≤ k) : Room base b vs { x with rm := rs } W' :=
  ⟨Nat.le_trans h.z hf.size, h.a.fx hf h.am, h.o.fx hf h.om, h.c.fx hf fun k hk' => h.cm k (by rw [hk']; simp), ho, h.ao, h.ac, (h.am.symm.step (fun k hk' => (h.a.blks k hk').2) hk).symm, h.oc, (h.om.symm.step (fun k hk' => (h.o.blks k hk').2) hk).symm, (h.cm.symm.step (fun k hk' => (h.clt k hk').2) hk).symm,
    Nat.lt_of_lt_of_le h.bz hf.size, range_same h.r (hf.block b h.bz h.bm), h.ba, h.bo, h.bc, fun hm => by
      rcases hk b hm with e | e
      · exact h.bm e
      · have := h.bz; omega⟩
end
end Go.Proofs.Ytcffhfcjfjfokaa
