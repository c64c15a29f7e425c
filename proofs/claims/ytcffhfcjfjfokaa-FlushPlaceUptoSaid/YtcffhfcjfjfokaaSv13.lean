/- Rest Caser Casew CxOpen PlA Who Place, joined. -/
import Derived.Deep.RegionHeld3
import Derived.IntWalk
import Derived.Test.YtcffhfcjfjfokaaSv3
import Derived.Test.YtcffhfcjfjfokaaSv4
import Derived.Test.YtcffhfcjfjfokaaSv5
import Derived.Test.YtcffhfcjfjfokaaSv7
import Derived.Test.YtcffhfcjfjfokaaSv9
import Derived.Test.YtcffhfcjfjfokaaSv10
import Derived.Test.YtcffhfcjfjfokaaSv12
set_option linter.unusedVariables false
set_option linter.unusedSimpArgs false
/- What Rest answers. -/
namespace Go.Proofs.Ytcffhfcjfjfokaa
open Go.RowKit
/-- The senders and numbers can be keys of a map. -/
def KeyD (ds : List Dt) : Prop := ∀ d ∈ ds, (Lit.int .i64 d.s).wf = true ∧ (Lit.int .i64 d.q).wf = true
/-- Messages in rows of the call's own, each one's bytes in a row of its own. -/
structure MsOwn (w : World) (base : Nat) (B : Option Addr) (c : Nat) (rs : List Dr) : Prop where
  row : Owns w base 54 4 eDr B c rs
  each : ∀ r ∈ rs, Owns w base 5 1 eByte r.B r.c r.d.body
  sep : rs.Pairwise fun a b => blk a.B = none ∨ blk a.B ≠ blk b.B
def RestPost (done : Int) (fs : List Fl) (ds : List Dt) (w : World) (x : Ending) (w' : World) : Prop :=
  (∃ B c rs n, x = .returned (.tuple #[.slice B rs.length c, .int .i64 n]) ∧ RestIs done fs ds (rs.map Dr.d) n ∧ MsOwn w' w.heap.size B c rs) ∧ Below w.heap.size w w'
theorem rest_none {done : Int} {fs : List Fl} {ds : List Dt} {w w' : World} {n : Int} (h : RestIs done fs ds [] n) (hb : Below w.heap.size w w') : RestPost done fs ds w (.returned (.tuple #[.slice none 0 0, .int .i64 n])) w' :=
  ⟨⟨none, 0, [], n, rfl, h, ⟨owns_nil _ _ _ _ _, by simp, List.Pairwise.nil⟩⟩, hb⟩
theorem MsOwn.lower {w : World} {base base' : Nat} {B : Option Addr} {c : Nat} {rs : List Dr} (h : MsOwn w base B c rs) (hb : base' ≤ base) : MsOwn w base' B c rs := ⟨h.row.lower hb, fun r hr => (h.each r hr).lower hb, h.sep⟩
theorem MsOwn.snoc {w w7 w8 : World} {base : Nat} {B A1 A8 : Option Addr} {c c1 c8 : Nat} {rs : List Dr} {d : Dt} {o : Obj} (h : MsOwn w base B c rs) (hb7 : Below w.heap.size w w7) (ho7 : Owns w7 base 5 1 eByte A1 c1 d.body) (hA1 : ∀ k, blk A1 = some k → w.heap.size ≤ k)
    (hg8 : (w7.alloc o).grownBy w8 (blk B)) (ho8 : Owns w8 base 54 4 eDr A8 c8 (rs ++ [⟨d, A1, c1⟩])) : MsOwn w8 base A8 c8 (rs ++ [⟨d, A1, c1⟩]) := by
  have hrow7 := (h.row.keep hb7 (fun k hk => (h.row.lo k hk).2)).alloc o
  refine ⟨ho8, fun r hr => ?_, ?_⟩
  · rcases List.mem_append.1 hr with hr | hr
    · have h1 := ((h.each r hr).keep hb7 (fun k hk => ((h.each r hr).lo k hk).2)).alloc o
      exact h1.kept hg8 (h1.ne hrow7 (by decide))
    · obtain rfl := List.mem_singleton.1 hr
      exact (ho7.alloc o).kept hg8 ((ho7.alloc o).ne hrow7 (by decide))
  · refine List.pairwise_append.2 ⟨h.sep, List.pairwise_singleton _ _, fun a ha b hb => ?_⟩
    obtain rfl := List.mem_singleton.1 hb
    cases hab : blk a.B with
    | none => exact .inl rfl
    | some k =>
      refine .inr fun e => ?_
      have h1 := ((h.each a ha).lo k hab).2
      have h2 := hA1 k e.symm
      omega
theorem info54 : (Try.prog.info? 54).map (fun i => (i.zero, i.size, i.bytes)) = some (some (.agg #[.int .i64 0, .int .i64 0, .int .i64 0, .slice none 0 0]), 4, 48) := by kernel_rfl
theorem firstTo_hit {ds : List Dt} {i : Nat} {d : Dt} {v : Int} (hd : ds[i]? = some d) (h : firstTo ds (d.s, d.q) i = some v) : (fun s => firstTo ds s (i + 1)) = fun s => firstTo ds s i := funext fun s => by
  show firstTo ds s (i + 1) = _
  rw [firstTo]
  cases hk : firstTo ds s i with
  | some j => rfl
  | none =>
    rw [hd]
    dsimp only
    rw [if_neg]
    rintro ⟨e1, e2⟩
    have : s = (d.s, d.q) := by rw [e1, e2]
    rw [this, h] at hk; cases hk
theorem firstTo_new {ds : List Dt} {i : Nat} {d : Dt} (hd : ds[i]? = some d) (h : firstTo ds (d.s, d.q) i = none) : (fun s => firstTo ds s (i + 1)) = fun s => if s = (d.s, d.q) then some (i : Int) else firstTo ds s i := funext fun s => by
  show firstTo ds s (i + 1) = _
  rw [firstTo]
  by_cases e : s = (d.s, d.q)
  · subst e
    rw [h, if_pos rfl, hd]
    dsimp only
    rw [if_pos ⟨rfl, rfl⟩]
  · rw [if_neg e]
    cases hk : firstTo ds s i with
    | some j => rfl
    | none =>
      rw [hd]
      dsimp only
      rw [if_neg]
      rintro ⟨e1, e2⟩
      exact e (by rw [e1, e2])
/-- The world in a round: below B0 as it was, the slot's box there. -/
structure RestT (w5 : World) (b : Nat) (bx : Array Value) (W : World) : Prop where
  bel : Below w5.heap.size w5 W
  box : ∀ i, W.cell? ⟨b, i, none⟩ = bx[i]?
  size : b < W.heap.size
  low : w5.heap.size ≤ b
theorem RestT.drew {w5 W : World} {b : Nat} {bx : Array Value} (h : RestT w5 b bx W) : RestT w5 b bx W.drew := ⟨Below.drew h.bel, h.box, h.size, h.low⟩
theorem RestT.below {w5 W W' : World} {b : Nat} {bx : Array Value} (h : RestT w5 b bx W) (hb : Below W.heap.size W W') : RestT w5 b bx W' :=
  ⟨h.bel.trans (hb.mono h.bel.size), fun i => (hb.cell (p := ⟨b, i, none⟩) h.size).trans (h.box i), Nat.lt_of_lt_of_le h.size hb.size, h.low⟩
theorem RestT.alloc {w5 W : World} {b : Nat} {bx : Array Value} (h : RestT w5 b bx W) (o : Obj) : RestT w5 b bx (W.alloc o) := h.below ((Below.refl _ _).alloc (Nat.le_refl _) _)
theorem RestT.grown {w5 W W' : World} {b : Nat} {bx : Array Value} {B : Option Addr} (h : RestT w5 b bx W) (hg : W.grownBy W' (blk B)) (hB : ∀ k, blk B = some k → w5.heap.size ≤ k ∧ k < b) : RestT w5 b bx W' :=
  ⟨h.bel.grown hg h.bel.size (fun k hk => (hB k hk).1), fun i => (hg.cell_far ⟨b, i, none⟩ h.size (fun e => by have := (hB b e.symm).2; omega)).trans (h.box i), Nat.lt_of_lt_of_le h.size hg.size, h.low⟩
set_option maxRecDepth 100000 in
set_option maxHeartbeats 4000000 in
theorem rest_any (done : Int) (A M : Option Addr) (cA cM N : Nat) (fs : List Fl) (ds : List Dt) (w : World) (hN : N ≤ w.heap.size) (hA : Fls w N A fs) (hM : Dts w N M ds) (hl : fs.length ≤ 9223372036854775807) (hsm : SmallD ds) (hkd : KeyD ds) :
    Calls Try.prog 19 #[.int .i64 done, .slice A fs.length cA, .slice M ds.length cM] w (RestPost done fs ds w) := by
  have hld : ds.length ≤ 1048576 := hsm.1
  replace hsm := Lib.hid hsm
  replace hkd := Lib.hid hkd
  by_cases h1 : done < 0
  · have HL : Hid (RestIs done fs ds [] 1) := by show (if _ then _ else _); rw [if_neg (by omega)]; exact ⟨rfl, rfl⟩
    go_enter Try.func19, Try.ntmps19
    go_wp2
    go_ret2
    go_light
    exact rest_none HL.out (Below.refl _ _)
  · by_cases h2 : 4611686018427387904 < done
    · have HL : Hid (RestIs done fs ds [] 1) := by show (if _ then _ else _); rw [if_neg (by omega)]; exact ⟨rfl, rfl⟩
      go_enter Try.func19, Try.ntmps19
      go_wp2
      go_ret2
      go_light
      exact rest_none HL.out (Below.refl _ _)
    · have hmm := @run_makeMap Try.prog
      have H52 := Lib.hid (list_any A none cA 0 N fs [] w hN hA (fun h => absurd h (by simp)) hl (by simp))
      go_enter Try.func19, Try.ntmps19
      go_wp2_with (go_at_call 52; refine H52.out.mono ?_; intro e w' hp; obtain ⟨hbw, hp⟩ := list_cases hp; rw [List.append_nil] at hp; rcases hp with ⟨n, rfl, hn0, hL⟩ | ⟨bs, bu, cut, F, m, rfl, hL, hfit, hcut, hbs, hbu, hub, hMu, hF⟩; all_goals try (have hcc0 : w'.cell? ⟨bs, 0, none⟩ = some (.int .i64 (baseOf fs)) := (blk_cells hub 0); have hbsl : bs < w'.heap.size := (Array.getElem?_eq_some_iff.1 hub).1))
      · go_ret2
        go_light
        exact rest_none (by unfold RestIs; rw [if_pos (by omega)]; exact .inl ⟨n, hn0, more_nil hL, rfl, rfl⟩) hbw
      · have hlt : done < baseOf fs := by simp_all
        go_ret2
        go_light
        exact rest_none (by unfold RestIs; rw [if_pos (by omega)]; exact .inr (.inl ⟨more_nil hL, hfit, hlt, rfl, rfl⟩)) hbw
      · have hge : baseOf fs ≤ done := by simp_all
        have hsw := hbw.size
        replace hub := Lib.hid hub
        have hfit' := Lib.hid hfit
        have hcut' := Lib.hid hcut
        have hF' := Lib.hid hF
        have hL' := Lib.hid (more_nil hL)
        clear hfit hcut hF hL hcc0 H52
        clear hmm
        go_loopw [44] (fun k wr => ∃ (i n : Nat), k = .int .i64 i ∧ i ≤ ds.length ∧ MapsTo wr Try.prog 66 w'.heap.size n vSlot vInt (fun s => firstTo ds s i) ∧ Below w'.heap.size w' wr ∧ w'.heap.size + 1 ≤ wr.heap.size) (fun k _ => ds.length - (intOf k).toNat)
        case atStart => exact ⟨0, 0, rfl, by omega, mapsTo_made _ _ _ _ _, (Below.refl _ _).alloc (Nat.le_refl _) _, by simp⟩
        case round =>
          obtain ⟨i, n, rfl, hi, hmp, hb, hsz⟩ := hrel
          have hbr := hbw.trans (hb.mono hsw)
          by_cases hlt : i < ds.length
          · obtain ⟨g, o, d, X, cX, hMe, hg, hd, c0, c1, c2, c3, hX⟩ := (hM.below hbr hN).at_ hlt
            subst hMe
            obtain ⟨hw1, hw2⟩ := hkd.out d (List.mem_of_getElem? hd.out)
            have hkey := Lib.hid (key_slot d.s d.q hw1 hw2)
            have hgw : g < wr.heap.size := by omega
            have m2 : MapsTo ((wr.alloc (.cells #[.int .i64 d.s, .int .i64 d.q, .int .i64 d.b, .slice X d.body.length cX] 113)).alloc (.cells #[.int .i64 d.s, .int .i64 d.q] 66)) Try.prog 66 w'.heap.size n vSlot vInt (fun s => firstTo ds s i) := (hmp.alloc _).alloc _
            have hb2 : Below w'.heap.size w' ((wr.alloc (.cells #[.int .i64 d.s, .int .i64 d.q, .int .i64 d.b, .slice X d.body.length cX] 113)).alloc (.cells #[.int .i64 d.s, .int .i64 d.q] 66)) := (hb.alloc (by omega) _).alloc (by simp only [World.size_alloc]; omega) _
            have hlook := m2.look lawSlot vSlot_inj Try.underlying121 (zero3 _) true (d.s, d.q) hkey.out
            clear hw1 hw2 hX
            cases hf : firstTo ds (d.s, d.q) i with
            | some v =>
              have hm3 := m2
              rw [← firstTo_hit hd.out hf] at hm3
              rw [hf] at hlook
              simp only [vSlot, vInt] at hlook
              replace hm3 := Lib.hid hm3
              replace hf := Lib.hid hf
              replace hb2 := Lib.hid hb2
              clear m2 hmp
              go_wp2
              go_roundw
              case rel => go_light; exact ⟨i + 1, n, by go_num, by omega, hm3.out, hb2.out, by simp only [World.size_alloc]; omega⟩
              case measure => go_light; simp [intOf]; omega
            | none =>
              rw [hf] at hlook
              simp only [vSlot, vInt] at hlook
              replace m2 := Lib.hid m2
              replace hf := Lib.hid hf
              replace hb2 := Lib.hid hb2
              clear hmp
              go_wp2_with (at_mapUpdate; refine wpList_put _ rfl (.tmp 62) (.tmp 63) (.tmp 64) 121 rfl 66 3 lawSlot Try.underlying121 w'.heap.size n vSlot vInt vSlot_inj (fun s => firstTo ds s i) rfl m2.out (d.s, d.q) (i : Int) rfl rfl hkey.out ?_)
              intro w6 m6 hg6
              rw [← firstTo_new hd.out hf.out] at m6
              have hb6 := hb2.out.grown hg6 (by simp only [World.size_alloc]; omega) (by intro k hk; injection hk with hk; omega)
              have hs6 := hg6.size
              simp only [World.size_alloc] at hs6
              clear hg6 hlook
              go_wp2
              go_roundw
              case rel => go_light; exact ⟨i + 1, n + 1, by go_num, by omega, m6, hb6, by omega⟩
              case measure => go_light; simp [intOf]; omega
          · obtain rfl : i = ds.length := by omega
            obtain ⟨w5, hw5⟩ : ∃ w5 : World, w5 = wr := ⟨_, rfl⟩
            subst hw5
            have hcb := cut_bound hfit'.out (n := (cut - baseOf fs).toNat) (fun p h1 h2 => hcut'.out.all p h1 (by have := hcut'.out.low; omega))
            have hlow := hcut'.out.low
            have hbn := base_nonneg fs
            have hbl := base_le hfit'.out.sound
            have hub5 := Lib.hid ((hb.block bs hbsl).trans hub.out)
            have hMu5 := Lib.hid (hMu.keep hb hMu.lt)
            have hbu5 : bu < w5.heap.size := hMu5.out.lt
            have hbs5 : bs < w5.heap.size := by omega
            have hmp5 := Lib.hid hmp
            have hbm5 := hmp.lt
            clear hMu hmp hub
            go_wp2
            go_loopw [16, 17] (fun a b wr => ∃ (k : Nat) (B : Option Addr) (c m : Nat) (rs : List Dr), b = .int .i64 (done + 1 + k) ∧ a = .slice B m c ∧ rs.length = m ∧ k ≤ (cut - done).toNat ∧ RestTo F ds done k (rs.map Dr.d) ∧ MsOwn wr w5.heap.size B c rs ∧ m ≤ k ∧ Below w5.heap.size w5 wr) (fun _ b _ => (cut + 1 - intOf b).toNat)
            case atStart => exact ⟨0, none, 0, 0, [], by simp, rfl, rfl, by omega, .nil, ⟨owns_nil _ _ _ _ _, by simp, List.Pairwise.nil⟩, by omega, Below.refl _ _⟩
            case round =>
              obtain ⟨k, B, c, mm, rs, rfl, rfl, hm, hk, hrt, hown, hmk, hb9⟩ := hrel
              have hm' := Lib.hid hm
              have hs9 := hb9.size
              have hbw9 := hbr.trans (hb9.mono (by omega))
              have hcu := blk_cells ((hb9.block bs hbs5).trans hub5.out)
              have u1 := hcu 1
              have u2 := hcu 2
              simp at u1 u2
              replace hrt := Lib.hid hrt
              clear hcu hm
              by_cases hlt : done + 1 + k ≤ cut
              · obtain ⟨⟨x, y⟩, hs, -⟩ := (whole_iff hfit'.out).1 (hcut'.out.all (done + 1 + k) (by omega) hlt)
                have hFk := (hF'.out _ _).2 hs
                obtain ⟨gk, hgk, kk1, kk2, kk3, kk4, _⟩ := known_slot hfit'.out hs
                have hsd := (hfit'.out.sound gk hgk).high
                simp only at kk1 kk2 kk3 kk4
                have hkey := Lib.hid (key_slot x y (WalkArith.wf_i64 (by omega)) (WalkArith.wf_i64 (by omega)))
                have hkeyp := Lib.hid (key_int (done + 1 + (k : Int)) (WalkArith.wf_i64 (by omega)))
                have hMu9 := hMu5.out.keep hb9 hbu5
                have hlookA := hMu9.look lawInt vInt_inj Try.underlying117 (zero66 _) false (done + 1 + (k : Int)) hkeyp.out
                rw [hFk] at hlookA
                simp only [vInt, vSlot] at hlookA
                have hmp9 := (hmp5.out.keep hb9 hbm5).alloc (.cells #[.int .i64 x, .int .i64 y] 66)
                have hlookB := hmp9.look lawSlot vSlot_inj Try.underlying121 (zero3 _) true (x, y) hkey.out
                replace hFk := Lib.hid hFk
                clear hs hgk kk1 kk2 kk3 kk4 hsd hMu9 hmp9
                cases hf : firstTo ds (x, y) ds.length with
                | none =>
                  rw [hf] at hlookB
                  simp only [vSlot, vInt] at hlookB
                  have hRI : RestIs done fs ds [] 81 := by
                    unfold RestIs; rw [if_pos (by omega)]
                    exact .inr (.inr ⟨hL'.out, hfit'.out, hge, cut, F, hcut'.out, hF'.out, .inr ⟨rfl, rfl, k, (x, y), by omega, hFk.out, upto_all (firstTo_some.firstTo_none hf) (Nat.le_refl _)⟩⟩)
                  replace hRI := Lib.hid hRI
                  replace hf := Lib.hid hf
                  go_wp2
                  go_ret2
                  go_light
                  exact rest_none hRI.out (hbw9.alloc (by omega) _)
                | some v =>
                  rw [hf] at hlookB
                  simp only [vSlot, vInt] at hlookB
                  obtain ⟨i, d, rfl, hil, hd, e1, e2, e3⟩ := firstTo_some hf
                  have hFD := Lib.hid (show FirstD ds (x, y) d from ⟨i, hd, e1, e2, e3⟩)
                  obtain ⟨g, o, d', X, cX, hMe, hg, hd', c0, c1, c2, c3, hX⟩ := (hM.below hbw9 hN).at_ hil
                  obtain rfl : d = d' := by have := hd'.out; rw [hd] at this; injection this
                  subst hMe
                  have hgw : g < wr.heap.size := by omega
                  have hs1 := hsm.out.2 d (List.mem_of_getElem? hd)
                  have hil' : (i : Int) < ds.length := by omega
                  replace hf := Lib.hid hf
                  have hdd := Lib.hid hd
                  clear hd e1 e2 e3 hd' c0 c1 c2
                  have hT0 : RestT w5 wr.heap.size #[.int .i64 x, .int .i64 y] (wr.alloc (.cells #[.int .i64 x, .int .i64 y] 66)) := ⟨hb9.alloc (by omega) _, fun i => World.cell?_alloc_at _ _ _ _ rfl, by simp, hs9⟩
                  have hT0d := hT0.drew
                  have hw5X : BodyAt w5 N X cX d.body ∧ w5.cell? ⟨g, o + i * 4 + 3, none⟩ = some (.slice X d.body.length cX) := by
                    obtain ⟨g2, o2, d2, X2, cX2, he, _, hd2, _, _, _, k3, hX2⟩ := (hM.below hbr hN).at_ hil
                    injection he with he; injection he with he1 he2; subst he1 he2
                    have e3 := (hb9.cell (p := ⟨g, o + i * 4 + 3, none⟩) (by show g < _; omega)).trans k3
                    rw [c3] at e3
                    injection e3 with e3; injection e3 with e4 e5 e6
                    obtain rfl : d = d2 := by have := hd2.out; rw [hdd.out] at this; injection this
                    subst e4 e6
                    exact ⟨hX2, k3⟩
                  obtain ⟨hX5, c35⟩ := hw5X
                  have hXr : ∀ W : World, RestT w5 wr.heap.size #[.int .i64 x, .int .i64 y] W → RowAt W N 1 eByte X d.body := fun W h => hX5.row.below h.bel (by omega)
                  have hall : ∀ W : World, RestT w5 wr.heap.size #[.int .i64 x, .int .i64 y] W → (RestT w5 wr.heap.size #[.int .i64 x, .int .i64 y] W ∧ W.cell? ⟨wr.heap.size, 0, none⟩ = some (.int .i64 x) ∧ W.cell? ⟨wr.heap.size, 1, none⟩ = some (.int .i64 y) ∧ W.cell? ⟨g, o + i * 4 + 3, none⟩ = some (.slice X d.body.length cX)) := fun W h => ⟨h, h.box 0, h.box 1, (h.bel.cell (p := ⟨g, _, none⟩) (by show g < _; omega)).trans c35⟩
                  have hszW : ∀ W : World, RestT w5 wr.heap.size #[.int .i64 x, .int .i64 y] W → w5.heap.size ≤ W.heap.size := fun W h => h.bel.size
                  have hlo := hown.row.lo
                  replace hXr := Lib.hid hXr
                  replace hall := Lib.hid hall
                  replace hszW := Lib.hid hszW
                  have hown' := Lib.hid hown
                  clear hX hown hX5 c35
                  go_wp2
                  go_region_held3 (fun W => RestT w5 wr.heap.size #[.int .i64 x, .int .i64 y] W ∧ W.cell? ⟨wr.heap.size, 0, none⟩ = some (.int .i64 x) ∧ W.cell? ⟨wr.heap.size, 1, none⟩ = some (.int .i64 y) ∧ W.cell? ⟨g, o + i * 4 + 3, none⟩ = some (.slice X d.body.length cX))
                    ((refine hall.out _ ?_; first | exact hT0d | exact (‹RestT w5 _ _ _ ∧ _›).1.alloc _ | exact (‹RestT w5 _ _ _ ∧ _›).1.below hb7 | exact (‹RestT w5 _ _ _ ∧ _›).1.grown hg8.out hlo))
                    (first
                      | (refine step_append_rows rfl (.const (.slice none 0 0)) (.tmp 100) 52 rfl w5.heap.size 5 1 1 _ Try.underlying52 info5 rfl (by decide) eByte len_eByte one_eByte none 0 [] X cX N 0 d.body.length d.body rfl rfl rfl rfl (owns_nil _ _ _ _ _) (hXr.out _ (‹RestT w5 _ _ _ ∧ _›).1) (by omega) (by omega) (hszW.out _ (‹RestT w5 _ _ _ ∧ _›).1) ?_; intro A1 cc1 w7 ho7 hg7 hk7; have hb7 := (Below.refl _ _).grown hg7 (Nat.le_refl _) (by intro k hk; cases hk); have hb7w : Below wr.heap.size wr w7 := (Below.drew ((Below.refl wr.heap.size wr).alloc (Nat.le_refl _) (.cells #[.int .i64 x, .int .i64 y] 66))).trans (hb7.mono (by simp)); rw [Nat.zero_add]; replace ho7 := Lib.hid ho7; replace hk7 := Lib.hid hk7)
                      | (refine step_append_rows rfl (.tmp 90) (.tmp 103) 44 rfl w5.heap.size 54 4 48 _ Try.underlying44 info54 rfl (by decide) eDr len_eDr one_eDr B c rs (some ⟨w7.heap.size, 0, none⟩) 1 (w7.heap.size + 1) mm 1 [⟨⟨done + 1 + k, x, y, d.body⟩, A1, cc1⟩] rfl rfl hm'.out rfl ((hown'.out.row.keep hb7w (fun k hk => (hlo k hk).2)).alloc _) (row_new _ _ _ _ _ _ rfl) (by omega) (by omega) (hszW.out _ (‹RestT w5 _ _ _ ∧ _›).1) ?_; intro A8 c8 w8 ho8 hg8 hk8; replace ho8 := Lib.hid ho8; replace hg8 := Lib.hid hg8))
                  have hbl := (‹RestT w5 _ _ _ ∧ _›).1.bel
                  have hA1 : ∀ j, blk A1 = some j → wr.heap.size ≤ j := fun j hj => by
                    rcases hk7.out with h | h
                    · rw [h] at hj; cases hj
                    · rw [h] at hj; injection hj with hj; rw [← hj]; simp
                  have hM8 := MsOwn.snoc (d := ⟨done + 1 + k, x, y, d.body⟩) hown'.out hb7w ho7.out hA1 hg8.out ho8.out
                  have hrt8 : RestTo F ds done (k + 1) ((rs ++ [(⟨⟨done + 1 + k, x, y, d.body⟩, A1, cc1⟩ : Dr)]).map Dr.d) := by
                    rw [List.map_append]; exact RestTo.snoc hrt.out hFk.out hFD.out
                  have hl8 : (rs ++ [(⟨⟨done + 1 + k, x, y, d.body⟩, A1, cc1⟩ : Dr)]).length = mm + 1 := by rw [List.length_append, hm'.out]; rfl
                  replace hM8 := Lib.hid hM8
                  replace hrt8 := Lib.hid hrt8
                  replace hl8 := Lib.hid hl8
                  clear hA1 hb7 hb7w hlookA hlookB u1 u2
                  go_wp2
                  go_roundw
                  case rel => go_light; exact ⟨k + 1, A8, c8, mm + 1, _, by rw [show ((k + 1 : Nat) : Int) = k + 1 by omega]; congr 1; omega, rfl, hl8.out, by omega, hrt8.out, hM8.out, by omega, hbl⟩
                  case measure => go_light; simp [intOf]; omega
              · have hke : k = (cut - done).toNat := by omega
                subst hke
                have hRI : RestIs done fs ds (rs.map Dr.d) 0 := by
                  unfold RestIs; rw [if_pos (by omega)]
                  exact .inr (.inr ⟨hL'.out, hfit'.out, hge, cut, F, hcut'.out, hF'.out, .inl ⟨rfl, hrt.out⟩⟩)
                have hO := hown.lower (base' := w.heap.size) (by omega)
                replace hRI := Lib.hid hRI
                replace hO := Lib.hid hO
                clear hown
                rw [← hm'.out]
                go_wp2
                go_ret2
                go_light
                exact ⟨⟨B, c, rs, 0, rfl, hRI.out, hO.out⟩, hbw9⟩
end Go.Proofs.Ytcffhfcjfjfokaa
/- A case that came in, with its messages. -/
namespace Go.Proofs.Ytcffhfcjfjfokaa
open Go.RowKit Go.Deep Go.ChangeShapes Go.WideShapes
theorem cells113 : Try.prog.cellsOf 113 = 4 := by kernel_rfl
theorem cells40 : Try.prog.cellsOf 40 = 1 := by kernel_rfl
theorem cells52 : Try.prog.cellsOf 52 = 1 := by kernel_rfl
theorem cells5 : Try.prog.cellsOf 5 = 1 := by kernel_rfl
section
variable {H : Type} {enc : TypeId × Value → H} {W : World} {sp : Nat → Bool}
theorem elem5 (n : Nat) (cs : List Value) (y : DataW H × List MemPlace) (h : DataW.trod enc Try.prog W 0 sp true n 5 cs = some y) : ∃ x, cs = eByte x ∧ True := by
  obtain ⟨z, hz, _⟩ := DataW.trod_int Try.underlying5 h
  exact ⟨z, hz, trivial⟩
def DtQ (W : World) (r : Dr) (b : Nat) : Prop := BodyAt W W.heap.size r.B r.c r.d.body ∧ r.d.body.length ≤ b ∧ (Lit.int .i64 r.d.s).wf = true ∧ (Lit.int .i64 r.d.q).wf = true
set_option maxRecDepth 100000 in
theorem elem113 (n : Nat) (cs : List Value) (y : DataW H × List MemPlace) (h : DataW.trod enc Try.prog W 0 sp true n 113 cs = some y) : ∃ r, cs = eDr r ∧ DtQ W r (Rows.uptoBulk y.1) := by
  obtain ⟨ys, m, _, rfl, hlen, hyl, hf⟩ := DataW.trod_struct Try.underlying113 h
  rw [cells113] at hlen
  have hyl4 : ys.length = 4 := hyl
  match cs, hlen with
  | [u0, u1, u2, u3], _ =>
    match ys, hyl4 with
    | [y0, y1, y2, y3], _ =>
      have h0 : DataW.trod enc Try.prog W 0 sp true m 3 (([u0, u1, u2, u3].drop 0).take (Try.prog.cellsOf 3)) = some y0 := hf 0 _ rfl
      have h1 : DataW.trod enc Try.prog W 0 sp true m 3 (([u0, u1, u2, u3].drop 1).take (Try.prog.cellsOf 3)) = some y1 := hf 1 _ rfl
      have h2 : DataW.trod enc Try.prog W 0 sp true m 3 (([u0, u1, u2, u3].drop 2).take (Try.prog.cellsOf 3)) = some y2 := hf 2 _ rfl
      have h3 : DataW.trod enc Try.prog W 0 sp true m 52 (([u0, u1, u2, u3].drop 3).take (Try.prog.cellsOf 52)) = some y3 := hf 3 _ rfl
      rw [cells3'] at h0 h1 h2
      rw [cells52] at h3
      simp only [List.drop_zero, List.drop_succ_cons, List.take_succ_cons, List.take_zero] at h0 h1 h2 h3
      obtain ⟨a, ha, _, hwa⟩ := DataW.trod_int Try.underlying3 h0
      obtain ⟨b, hb, _, hwb⟩ := DataW.trod_int Try.underlying3 h1
      obtain ⟨c, hc, _⟩ := DataW.trod_int Try.underlying3 h2
      simp at ha hb hc
      obtain ⟨X, s, cX, hX, r1, r2, r3, r4, _⟩ := open_row Try.underlying52 cells5 (by decide) eByte (fun _ _ => True) elem5 h3
      refine ⟨⟨⟨a, b, c, s⟩, X, cX⟩, by simp [eDr, ha, hb, hc, hX], ⟨r1, r2, r3⟩, Nat.le_trans r4 (bulks.agg_part (by simp)), hwa, hwb⟩
/-- A list of messages that came in. -/
theorem open40 {fuel : Nat} {v : Value} {x : DataW H × List MemPlace} (h : DataW.trod enc Try.prog W 0 sp true fuel 40 [v] = some x) :
    ∃ (A : Option Addr) (ds : List Dt) (c : Nat), v = .slice A ds.length c ∧ Dts W W.heap.size A ds ∧ ds.length ≤ Rows.uptoBulk x.1 ∧ (∀ d ∈ ds, d.body.length ≤ Rows.uptoBulk x.1) ∧ KeyD ds := by
  obtain ⟨A, rs, c, rfl, h1, h2, h3, h4, h5⟩ := open_row Try.underlying40 cells113 (by decide) eDr (DtQ W) elem113 h
  refine ⟨A, rs.map Dr.d, c, by simp, ⟨rs, rfl, h1, fun r hr => by obtain ⟨b, _, hq⟩ := h5 r hr; exact hq.1⟩, by simpa using h4, fun d hd => ?_, fun d hd => ?_⟩
  · obtain ⟨r, hr, rfl⟩ := List.mem_map.1 hd
    obtain ⟨b, hb, hq⟩ := h5 r hr
    exact Nat.le_trans hq.2.1 hb
  · obtain ⟨r, hr, rfl⟩ := List.mem_map.1 hd
    obtain ⟨b, hb, hq⟩ := h5 r hr
    exact hq.2.2
set_option maxRecDepth 100000 in
/-- A case that came in: its contents, how far it is, its messages. -/
theorem open42m {fuel : Nat} {cs : List Value} {x : DataW H × List MemPlace} (h : DataW.trod enc Try.prog W 0 sp true fuel 42 cs = some x) :
    ∃ (A : Option Addr) (fs : List Fl) (c : Nat) (done : Int) (M : Option Addr) (ds : List Dt) (cM : Nat) (u1 u2 u3 u4 u5 u6 u7 u9 u10 u11 : Value), cs = [.slice A fs.length c, u1, u2, u3, u4, u5, u6, u7, .int .i64 done, u9, u10, u11, .slice M ds.length cM] ∧
      Fls W W.heap.size A fs ∧ fs.length ≤ Rows.uptoBulk x.1 ∧ (∀ f ∈ fs, f.slots.length ≤ Rows.uptoBulk x.1 ∧ f.have_.length ≤ Rows.uptoBulk x.1) ∧
      Dts W W.heap.size M ds ∧ ds.length ≤ Rows.uptoBulk x.1 ∧ (∀ d ∈ ds, d.body.length ≤ Rows.uptoBulk x.1) ∧ KeyD ds := by
  obtain ⟨ys, m, _, rfl, hlen, hyl, hf⟩ := DataW.trod_struct Try.underlying42 h
  rw [cells42] at hlen
  have hyl7 : ys.length = 7 := hyl
  match cs, hlen with
  | [u0, u1, u2, u3, u4, u5, u6, u7, u8, u9, u10, u11, u12], _ =>
    match ys, hyl7 with
    | [y0, y1, y2, y3, y4, y5, y6], _ =>
      have h0 : DataW.trod enc Try.prog W 0 sp true m 22 (([u0, u1, u2, u3, u4, u5, u6, u7, u8, u9, u10, u11, u12].drop 0).take (Try.prog.cellsOf 22)) = some y0 := hf 0 _ rfl
      have h2 : DataW.trod enc Try.prog W 0 sp true m 3 (([u0, u1, u2, u3, u4, u5, u6, u7, u8, u9, u10, u11, u12].drop 8).take (Try.prog.cellsOf 3)) = some y2 := hf 2 _ rfl
      have h6 : DataW.trod enc Try.prog W 0 sp true m 40 (([u0, u1, u2, u3, u4, u5, u6, u7, u8, u9, u10, u11, u12].drop 12).take (Try.prog.cellsOf 40)) = some y6 := hf 6 _ rfl
      rw [cells22'] at h0
      rw [cells3'] at h2
      rw [cells40] at h6
      simp only [List.drop_zero, List.drop_succ_cons, List.take_succ_cons, List.take_zero] at h0 h2 h6
      obtain ⟨d, hd, _⟩ := DataW.trod_int Try.underlying3 h2
      obtain ⟨A, fs, c, hA, a1, a2, a3, a4, a5⟩ := open22 h0
      obtain ⟨M, ds, cM, hM, q1, q2, q3, q4⟩ := open40 h6
      have b0 : Rows.uptoBulk y0.1 ≤ Rows.uptoBulk (.agg ([y0, y1, y2, y3, y4, y5, y6].map (·.1))) := bulks.agg_part (by simp)
      have b6 : Rows.uptoBulk y6.1 ≤ Rows.uptoBulk (.agg ([y0, y1, y2, y3, y4, y5, y6].map (·.1))) := bulks.agg_part (by simp)
      simp at hd
      refine ⟨A, fs, c, d, M, ds, cM, u1, u2, u3, u4, u5, u6, u7, u9, u10, u11, ?_, a1, Nat.le_trans a4 b0, fun f hf => ⟨Nat.le_trans (a5 f hf).1 b0, Nat.le_trans (a5 f hf).2 b0⟩, q1, Nat.le_trans q2 b6, fun d hd => Nat.le_trans (q3 d hd) b6, q4⟩
      rw [hA, hd, hM]
end
end Go.Proofs.Ytcffhfcjfjfokaa
/- A case that came in, with the nodes' numbers. -/
namespace Go.Proofs.Ytcffhfcjfjfokaa
open Go.RowKit Go.Deep Go.ChangeShapes Go.WideShapes
section
variable {H : Type} {enc : TypeId × Value → H} {W : World} {sp : Nat → Bool}
set_option maxRecDepth 100000 in
/-- A case that came in: its contents, its own one, how far it is, the nodes' numbers, the two nodes. -/
theorem open42w {fuel : Nat} {cs : List Value} {x : DataW H × List MemPlace} (h : DataW.trod enc Try.prog W 0 sp true fuel 42 cs = some x) :
    ∃ (A : Option Addr) (fs : List Fl) (c : Nat) (own : Fl) (X Y : Option Addr) (cX cY : Nat) (done : Int) (C : Option Addr) (who : List Int) (cC : Nat) (self q : Int) (u : Value), cs = .slice A fs.length c :: (flc own.e own.l own.i own.c own.base X own.slots.length cX Y own.have_.length cY).toList ++ [.int .i64 done, .slice C who.length cC, .int .i64 self, .int .i64 q, u] ∧
      Fls W W.heap.size A fs ∧ fs.length ≤ Rows.uptoBulk x.1 ∧ (∀ f ∈ fs, f.slots.length ≤ Rows.uptoBulk x.1 ∧ f.have_.length ≤ Rows.uptoBulk x.1) ∧ FlRows W W.heap.size own X cX Y cY ∧ own.slots.length ≤ Rows.uptoBulk x.1 ∧ own.have_.length ≤ Rows.uptoBulk x.1 ∧
      RowAt W W.heap.size 1 eInt C who ∧ who.length ≤ cC ∧ cC ≤ 9223372036854775807 ∧ who.length ≤ Rows.uptoBulk x.1 := by
  obtain ⟨ys, m, _, rfl, hlen, hyl, hf⟩ := DataW.trod_struct Try.underlying42 h
  rw [cells42] at hlen
  have hyl7 : ys.length = 7 := hyl
  match cs, hlen with
  | [u0, u1, u2, u3, u4, u5, u6, u7, u8, u9, u10, u11, u12], _ =>
    match ys, hyl7 with
    | [y0, y1, y2, y3, y4, y5, y6], _ =>
      have h0 : DataW.trod enc Try.prog W 0 sp true m 22 (([u0, u1, u2, u3, u4, u5, u6, u7, u8, u9, u10, u11, u12].drop 0).take (Try.prog.cellsOf 22)) = some y0 := hf 0 _ rfl
      have h1 : DataW.trod enc Try.prog W 0 sp true m 39 (([u0, u1, u2, u3, u4, u5, u6, u7, u8, u9, u10, u11, u12].drop 1).take (Try.prog.cellsOf 39)) = some y1 := hf 1 _ rfl
      have h2 : DataW.trod enc Try.prog W 0 sp true m 3 (([u0, u1, u2, u3, u4, u5, u6, u7, u8, u9, u10, u11, u12].drop 8).take (Try.prog.cellsOf 3)) = some y2 := hf 2 _ rfl
      have h3 : DataW.trod enc Try.prog W 0 sp true m 37 (([u0, u1, u2, u3, u4, u5, u6, u7, u8, u9, u10, u11, u12].drop 9).take (Try.prog.cellsOf 37)) = some y3 := hf 3 _ rfl
      have h4 : DataW.trod enc Try.prog W 0 sp true m 3 (([u0, u1, u2, u3, u4, u5, u6, u7, u8, u9, u10, u11, u12].drop 10).take (Try.prog.cellsOf 3)) = some y4 := hf 4 _ rfl
      have h5 : DataW.trod enc Try.prog W 0 sp true m 3 (([u0, u1, u2, u3, u4, u5, u6, u7, u8, u9, u10, u11, u12].drop 11).take (Try.prog.cellsOf 3)) = some y5 := hf 5 _ rfl
      rw [cells22'] at h0
      rw [cells39] at h1
      rw [cells3'] at h2 h4 h5
      rw [cells37] at h3
      simp only [List.drop_zero, List.drop_succ_cons, List.take_succ_cons, List.take_zero] at h0 h1 h2 h3 h4 h5
      obtain ⟨d, hd, _⟩ := DataW.trod_int Try.underlying3 h2
      obtain ⟨self, hse, _⟩ := DataW.trod_int Try.underlying3 h4
      obtain ⟨q, hqe, _⟩ := DataW.trod_int Try.underlying3 h5
      obtain ⟨r, hr, hq⟩ := elem39 m _ y1 h1
      obtain ⟨A, fs, c, hA, a1, a2, a3, a4, a5⟩ := open22 h0
      obtain ⟨C, who, cC, hC, q1, q2, q3, q4, _⟩ := open_row Try.underlying37 cells3' (by decide) eInt (fun _ _ => True) elem3 h3
      have b0 : Rows.uptoBulk y0.1 ≤ Rows.uptoBulk (.agg ([y0, y1, y2, y3, y4, y5, y6].map (·.1))) := bulks.agg_part (by simp)
      have b1 : Rows.uptoBulk y1.1 ≤ Rows.uptoBulk (.agg ([y0, y1, y2, y3, y4, y5, y6].map (·.1))) := bulks.agg_part (by simp)
      have b3 : Rows.uptoBulk y3.1 ≤ Rows.uptoBulk (.agg ([y0, y1, y2, y3, y4, y5, y6].map (·.1))) := bulks.agg_part (by simp)
      simp at hd hse hqe
      refine ⟨A, fs, c, r.f, r.X, r.Y, r.cX, r.cY, d, C, who, cC, self, q, u12, ?_, a1, Nat.le_trans a4 b0, fun f hf => ⟨Nat.le_trans (a5 f hf).1 b0, Nat.le_trans (a5 f hf).2 b0⟩, hq.1, Nat.le_trans hq.2.1 b1, Nat.le_trans hq.2.2 b1, q1, q2, q3, Nat.le_trans q4 b3⟩
      rw [hA, hd, hC, hse, hqe]
      simp [eRw] at hr
      simp [flc, hr]
end
end Go.Proofs.Ytcffhfcjfjfokaa
/- A whole case that came in. -/
namespace Go.Proofs.Ytcffhfcjfjfokaa
open Go.RowKit Go.Deep Go.ChangeShapes Go.WideShapes
structure Cx where
  A : Option Addr
  cA : Nat
  fs : List Fl
  own : Fl
  X : Option Addr
  cX : Nat
  Y : Option Addr
  cY : Nat
  done : Int
  C : Option Addr
  cC : Nat
  who : List Int
  self : Int
  q : Int
  M : Option Addr
  cM : Nat
  ms : List Dr
def cxA (o : Cx) : Array Value := #[.slice o.A o.fs.length o.cA, .int .i64 o.own.e, .int .i64 o.own.l, .int .i64 o.own.i, .int .i64 o.own.c, .int .i64 o.own.base, .slice o.X o.own.slots.length o.cX, .slice o.Y o.own.have_.length o.cY, .int .i64 o.done, .slice o.C o.who.length o.cC, .int .i64 o.self, .int .i64 o.q, .slice o.M o.ms.length o.cM]
structure CxAt (w : World) (N : Nat) (o : Cx) : Prop where
  fls : Fls w N o.A o.fs
  sm : Small o.fs
  cap : o.fs.length ≤ o.cA
  own : FlRows w N o.own o.X o.cX o.Y o.cY
  o1 : o.own.slots.length ≤ 1048576
  o2 : o.own.have_.length ≤ 1048576
  who : RowAt w N 1 eInt o.C o.who
  wl : o.who.length ≤ 1048576
  ms : Drs w N o.M o.ms
  sd : SmallD (o.ms.map Dr.d)
  kd : KeyD (o.ms.map Dr.d)
theorem CxAt.below {w w' : World} {N N' : Nat} {o : Cx} (h : CxAt w N o) (hb : Below N' w w') (hN : N ≤ N') : CxAt w' N o :=
  ⟨h.fls.below hb hN, h.sm, h.cap, h.own.below hb hN, h.o1, h.o2, h.who.below hb hN, h.wl, ⟨h.ms.row.below hb hN, fun r hr => (h.ms.each r hr).below hb hN⟩, h.sd, h.kd⟩
section
variable {H : Type} {enc : TypeId × Value → H} {W : World} {sp : Nat → Bool}
set_option maxRecDepth 100000 in
/-- A case that came in, of bulk at most 1048576. -/
theorem open42x {fuel : Nat} {cs : List Value} {x : DataW H × List MemPlace} (h : DataW.trod enc Try.prog W 0 sp true fuel 42 cs = some x) (hk : Rows.uptoBulk x.1 ≤ 1048576) : ∃ o : Cx, cs = (cxA o).toList ∧ CxAt W W.heap.size o := by
  obtain ⟨ys, m, _, rfl, hlen, hyl, hf⟩ := DataW.trod_struct Try.underlying42 h
  rw [cells42] at hlen
  have hyl7 : ys.length = 7 := hyl
  match cs, hlen with
  | [u0, u1, u2, u3, u4, u5, u6, u7, u8, u9, u10, u11, u12], _ =>
    match ys, hyl7 with
    | [y0, y1, y2, y3, y4, y5, y6], _ =>
      have h0 : DataW.trod enc Try.prog W 0 sp true m 22 (([u0, u1, u2, u3, u4, u5, u6, u7, u8, u9, u10, u11, u12].drop 0).take (Try.prog.cellsOf 22)) = some y0 := hf 0 _ rfl
      have h1 : DataW.trod enc Try.prog W 0 sp true m 39 (([u0, u1, u2, u3, u4, u5, u6, u7, u8, u9, u10, u11, u12].drop 1).take (Try.prog.cellsOf 39)) = some y1 := hf 1 _ rfl
      have h2 : DataW.trod enc Try.prog W 0 sp true m 3 (([u0, u1, u2, u3, u4, u5, u6, u7, u8, u9, u10, u11, u12].drop 8).take (Try.prog.cellsOf 3)) = some y2 := hf 2 _ rfl
      have h3 : DataW.trod enc Try.prog W 0 sp true m 37 (([u0, u1, u2, u3, u4, u5, u6, u7, u8, u9, u10, u11, u12].drop 9).take (Try.prog.cellsOf 37)) = some y3 := hf 3 _ rfl
      have h4 : DataW.trod enc Try.prog W 0 sp true m 3 (([u0, u1, u2, u3, u4, u5, u6, u7, u8, u9, u10, u11, u12].drop 10).take (Try.prog.cellsOf 3)) = some y4 := hf 4 _ rfl
      have h5 : DataW.trod enc Try.prog W 0 sp true m 3 (([u0, u1, u2, u3, u4, u5, u6, u7, u8, u9, u10, u11, u12].drop 11).take (Try.prog.cellsOf 3)) = some y5 := hf 5 _ rfl
      have h6 : DataW.trod enc Try.prog W 0 sp true m 40 (([u0, u1, u2, u3, u4, u5, u6, u7, u8, u9, u10, u11, u12].drop 12).take (Try.prog.cellsOf 40)) = some y6 := hf 6 _ rfl
      rw [cells22'] at h0
      rw [cells39] at h1
      rw [cells3'] at h2 h4 h5
      rw [cells37] at h3
      rw [cells40] at h6
      simp only [List.drop_zero, List.drop_succ_cons, List.take_succ_cons, List.take_zero] at h0 h1 h2 h3 h4 h5 h6
      obtain ⟨d, hd, _⟩ := DataW.trod_int Try.underlying3 h2
      obtain ⟨self, hse, _⟩ := DataW.trod_int Try.underlying3 h4
      obtain ⟨q, hqe, _⟩ := DataW.trod_int Try.underlying3 h5
      obtain ⟨r, hr, hq⟩ := elem39 m _ y1 h1
      obtain ⟨A, fs, c, hA, a1, a2, a3, a4, a5⟩ := open22 h0
      obtain ⟨C, who, cC, hC, q1, q2, q3, q4, _⟩ := open_row Try.underlying37 cells3' (by decide) eInt (fun _ _ => True) elem3 h3
      obtain ⟨M, rs, cM, hM, m1, m2, m3, m4, m5⟩ := open_row Try.underlying40 cells113 (by decide) eDr (DtQ W) elem113 h6
      have b0 : Rows.uptoBulk y0.1 ≤ 1048576 := Nat.le_trans (bulks.agg_part (by simp)) hk
      have b1 : Rows.uptoBulk y1.1 ≤ 1048576 := Nat.le_trans (bulks.agg_part (by simp)) hk
      have b3 : Rows.uptoBulk y3.1 ≤ 1048576 := Nat.le_trans (bulks.agg_part (by simp)) hk
      have b6 : Rows.uptoBulk y6.1 ≤ 1048576 := Nat.le_trans (bulks.agg_part (by simp)) hk
      simp at hd hse hqe
      have hms : ∀ x ∈ rs, DtQ W x 1048576 := fun x hx => by
        obtain ⟨b, hb, hq⟩ := m5 x hx
        exact ⟨hq.1, Nat.le_trans hq.2.1 (Nat.le_trans hb b6), hq.2.2⟩
      refine ⟨⟨A, c, fs, r.f, r.X, r.cX, r.Y, r.cY, d, C, cC, who, self, q, M, cM, rs⟩, ?_, ⟨a1, ⟨Nat.le_trans a4 b0, fun f hf => ⟨Nat.le_trans (a5 f hf).1 b0, Nat.le_trans (a5 f hf).2 b0⟩⟩, a2, hq.1, Nat.le_trans hq.2.1 b1, Nat.le_trans hq.2.2 b1, q1, Nat.le_trans q4 b3, ⟨m1, fun x hx => (hms x hx).1⟩, ⟨by rw [List.length_map]; exact Nat.le_trans m4 b6, fun x hx => ?_⟩, fun x hx => ?_⟩⟩
      · rw [hA, hd, hC, hse, hqe, hM]
        simp [eRw] at hr
        simp [cxA, hr]
      · obtain ⟨y, hy, rfl⟩ := List.mem_map.1 hx
        exact (hms y hy).2.1
      · obtain ⟨y, hy, rfl⟩ := List.mem_map.1 hx
        exact (hms y hy).2.2
end
end Go.Proofs.Ytcffhfcjfjfokaa
/- Words for FlushPlace. -/
namespace Go.Proofs.Ytcffhfcjfjfokaa
open Go Go.RowKit
theorem VSl.upto {A : Option Addr} {n c es h : Nat} {K : Value → Prop} (hh : h ≤ c) (hk : K (.slice A h c)) : VSl A n c es 0 h K :=
  .mk 0 h rfl rfl (Nat.zero_le _) hh (by
    have e : (if c = 0 then A else A.map (·.add (0 * es))) = A := by
      split
      · rfl
      · cases A with
        | none => rfl
        | some a => simp [Addr.add]
    rw [e, Nat.sub_zero]; exact hk)
theorem fls_take {w : World} {N : Nat} {A : Option Addr} {fs : List Fl} (h : Fls w N A fs) (n : Nat) : Fls w N A (fs.take n) := fun h0 => by
  have h1 : 0 < fs.length := by rw [List.length_take] at h0; omega
  obtain ⟨b, off, e, hb, hc⟩ := h h1
  refine ⟨b, off, e, hb, fun k f hf => hc k f ?_⟩
  have hk := (List.getElem?_eq_some_iff.1 hf).1
  rw [List.getElem?_take_of_lt (by rw [List.length_take] at hk; omega)] at hf
  exact hf
theorem small_take {fs : List Fl} (h : Small fs) (n : Nat) : Small (fs.take n) := ⟨by rw [List.length_take]; have := h.1; omega, fun f hf => h.2 f (List.mem_of_mem_take hf)⟩
theorem small_own {f : Fl} (h1 : f.slots.length ≤ 1048576) (h2 : f.have_.length ≤ 1048576) : Small [f] := ⟨by simp, fun g hg => by obtain rfl := List.mem_singleton.1 hg; exact ⟨h1, h2⟩⟩
theorem flAt_of {w : World} {N g o : Nat} {f : Fl} {X Y : Option Addr} {cX cY : Nat} (hr : w.rangeAt g o (flc f.e f.l f.i f.c f.base X f.slots.length cX Y f.have_.length cY).toList) : FlAt w N g o f X cX Y cY :=
  ⟨hr 0 _ rfl, hr 1 _ rfl, hr 2 _ rfl, hr 3 _ rfl, hr 4 _ rfl, hr 5 _ rfl, hr 6 _ rfl⟩
theorem inFs_one {w : World} {N g : Nat} {F : List Nat} {f : Fl} {X Y : Option Addr} {cX cY : Nat} (hg : g < w.heap.size) (hF : g ∉ F) (hr : w.rangeAt g 0 (flc f.e f.l f.i f.c f.base X f.slots.length cX Y f.have_.length cY).toList) (h : FlRows w N f X cX Y cY) : InFs w N F (some ⟨g, 0, none⟩) [f] := fun _ =>
  ⟨g, 0, rfl, hg, hF, fun k f' hf => by
    have hk := (List.getElem?_eq_some_iff.1 hf).1
    have hk0 : k = 0 := by simpa using hk
    subst hk0
    injection hf with hf; subst hf
    exact ⟨X, cX, Y, cY, by rw [Nat.zero_mul]; exact flAt_of hr, h⟩⟩
theorem fls_one {w : World} {N g : Nat} {f : Fl} {X Y : Option Addr} {cX cY : Nat} (hg : g < w.heap.size) (hN : N ≤ w.heap.size) (hr : w.rangeAt g 0 (flc f.e f.l f.i f.c f.base X f.slots.length cX Y f.have_.length cY).toList) (h : FlRows w N f X cX Y cY) : Fls w w.heap.size (some ⟨g, 0, none⟩) [f] := fun _ =>
  ⟨g, 0, rfl, hg, fun k f' hf => by
    have hk := (List.getElem?_eq_some_iff.1 hf).1
    have hk0 : k = 0 := by simpa using hk
    subst hk0
    injection hf with hf; subst hf
    exact ⟨X, cX, Y, cY, by rw [Nat.zero_mul]; exact flAt_of hr, h.below (Below.refl N w) (Nat.le_refl _) |>.more hN⟩⟩
theorem bs37z (W : World) : (Instr.buildSlice 37 0 #[]).run Try.prog W = .ok (.slice (some ⟨W.heap.size, 0, none⟩) 0 0) (W.alloc (.cells #[] 3)) := by kernel_rfl
theorem cxA_one (o : Cx) : (cxA o).all (·.oneCell') = true := by
  refine all_oneCell_toArray (cs := (cxA o).toList) fun u hu => ?_
  simp [cxA] at hu
  rcases hu with rfl | rfl | rfl | rfl | rfl | rfl | rfl | rfl | rfl | rfl | rfl | rfl | rfl <;> rfl
def zero42 : Value := .agg #[.slice none 0 0, .int .i64 0, .int .i64 0, .int .i64 0, .int .i64 0, .int .i64 0, .slice none 0 0, .slice none 0 0, .int .i64 0, .slice none 0 0, .int .i64 0, .int .i64 0, .slice none 0 0]
theorem run_zero42 (W : World) : (zeroValue 42).run Try.prog W = .ok zero42 W := by kernel_rfl
/-- What is known of the messages at hand. -/
def MsOk (rm : List Dr) : Prop := rm.length ≤ 1048576 ∧ ∀ r ∈ rm, r.d.body.length ≤ 1048576 ∧ (Lit.int .i64 r.d.s).wf = true ∧ (Lit.int .i64 r.d.q).wf = true
theorem MsOk.small {rm : List Dr} (h : MsOk rm) : SmallD (rm.map Dr.d) := ⟨by rw [List.length_map]; exact h.1, fun d hd => by obtain ⟨r, hr, rfl⟩ := List.mem_map.1 hd; exact (h.2 r hr).1⟩
theorem MsOk.key {rm : List Dr} (h : MsOk rm) : KeyD (rm.map Dr.d) := fun d hd => by obtain ⟨r, hr, rfl⟩ := List.mem_map.1 hd; exact (h.2 r hr).2
theorem MsOk.of {rm rs : List Dr} (h : SmallD (rs.map Dr.d)) (hk : KeyD (rs.map Dr.d)) (e : rm.map Dr.d = rs.map Dr.d) : MsOk rm := by
  rw [← e] at h hk
  exact ⟨by have := h.1; rwa [List.length_map] at this, fun r hr => ⟨h.2 r.d (List.mem_map.2 ⟨r, hr, rfl⟩), hk r.d (List.mem_map.2 ⟨r, hr, rfl⟩)⟩⟩
theorem MsOk.set {rm : List Dr} (h : MsOk rm) {i : Nat} {r : Dr} (h1 : r.d.body.length ≤ 1048576) (h2 : (Lit.int .i64 r.d.s).wf = true ∧ (Lit.int .i64 r.d.q).wf = true) : MsOk (rm.set i r) :=
  ⟨by rw [List.length_set]; exact h.1, fun x hx => by
    rcases List.mem_or_eq_of_mem_set hx with e | e
    · exact h.2 x e
    · subst e; exact ⟨h1, h2⟩⟩
/-- The state at the head of a turn. -/
structure PlI (w0 : World) (base b : Nat) (vs : List Value) (n : Nat) (k : Nat) (x : RX) (W : World) : Prop where
  k : k ≤ 3
  r : Room base b vs x W
  b : Below base w0 W
  a : x.ra.length = n
  o : x.ro.length = 1
  m : MsOk x.rm
end Go.Proofs.Ytcffhfcjfjfokaa
/- The numbers of the nodes whose contents they are. Plain words, no program in sight. -/
namespace Go.Proofs.Ytcffhfcjfjfokaa
open Go.RowKit
/-- Each a node's number, no two alike. -/
def nodeIn (x : Int) : Prop := 0 ≤ x ∧ x < 16
def WhoOk (who : List Int) : Prop := (∀ x ∈ who, nodeIn x) ∧ who.Nodup
/-- The place of a node in the first k of a list; -1: it is not there. -/
def PlTo (who : List Int) (t : Int) (k : Nat) (r : Int) : Prop := (r = -1 ∧ upto (fun x => x ≠ t) who k) ∨ (∃ i : Nat, i < k ∧ who[i]? = some t ∧ r = i)
theorem plTo_zero (who : List Int) (t : Int) : PlTo who t 0 (-1) := .inl ⟨rfl, upto_zero _ _⟩
theorem plTo_skip {who : List Int} {t x : Int} {k : Nat} {r : Int} (h : PlTo who t k r) (hx : who[k]? = some x) (hne : x ≠ t) : PlTo who t (k + 1) r := by
  rcases h with ⟨rfl, hu⟩ | ⟨i, hi, hw, rfl⟩
  · exact .inl ⟨rfl, upto_succ hu (fun y hy => by rw [hx] at hy; cases hy; exact hne)⟩
  · exact .inr ⟨i, by omega, hw, rfl⟩
theorem plTo_here {who : List Int} {t : Int} {k : Nat} (hx : who[k]? = some t) : PlTo who t (k + 1) k := .inr ⟨k, by omega, hx, rfl⟩
def PlaceIs (who : List Int) (t r : Int) : Prop := (∃ i : Nat, WhoOk who ∧ who[i]? = some t ∧ r = i) ∨ (r = -1 ∧ ¬ (WhoOk who ∧ t ∈ who))
theorem place_bad {who : List Int} {t : Int} (h : ¬ WhoOk who) : PlaceIs who t (-1) := .inr ⟨rfl, fun k => h k.1⟩
theorem bad_in {who : List Int} {q : Nat} {x : Int} (hx : who[q]? = some x) (h : x < 0 ∨ 16 ≤ x) : ¬ WhoOk who := fun k => by
  have := k.1 x (List.mem_of_getElem? hx); unfold nodeIn at this; omega
theorem bad_twice {who : List Int} {q j : Nat} {x : Int} (hx : who[q]? = some x) (hy : who[j]? = some x) (h : j < q) : ¬ WhoOk who := fun k =>
  apart_of_nodup k.2 (by omega : j ≠ q) hy hx
theorem who_ok {who : List Int} {q : Nat} (h1 : upto nodeIn who q) (h2 : apartTo who q) (hq : who.length ≤ q) : WhoOk who := ⟨upto_all h1 hq, nodup_of_apart h2 hq⟩
theorem place_all {who : List Int} {t : Int} {q : Nat} {r : Int} (h1 : upto nodeIn who q) (h2 : apartTo who q) (h : PlTo who t q r) (hq : who.length ≤ q) : PlaceIs who t r := by
  rcases h with ⟨rfl, hu⟩ | ⟨i, hi, hw, rfl⟩
  · exact .inr ⟨rfl, fun k => upto_all hu hq t k.2 rfl⟩
  · exact .inl ⟨i, who_ok h1 h2 hq, hw, rfl⟩

/-- The place of the lowest node of the first k that has what is asked for; -1: none has. hs: who has it. -/
def LowTo (who : List Int) (hs : List Bool) (k : Nat) (r : Int) : Prop :=
  (r = -1 ∧ ∀ j, j < k → hs[j]? ≠ some true) ∨ (∃ (i : Nat) (x : Int), i < k ∧ hs[i]? = some true ∧ who[i]? = some x ∧ r = i ∧ ∀ j y, j < k → hs[j]? = some true → who[j]? = some y → x ≤ y)
theorem lowTo_zero (who : List Int) (hs : List Bool) : LowTo who hs 0 (-1) := .inl ⟨rfl, fun j hj => by omega⟩
theorem lowTo_skip {who : List Int} {hs : List Bool} {k : Nat} {r : Int} (h : LowTo who hs k r) (hx : hs[k]? = some false) : LowTo who hs (k + 1) r := by
  rcases h with ⟨rfl, hu⟩ | ⟨i, x, hi, h1, h2, rfl, hu⟩
  · refine .inl ⟨rfl, fun j hj => ?_⟩
    by_cases e : j = k
    · subst e; rw [hx]; simp
    · exact hu j (by omega)
  · refine .inr ⟨i, x, by omega, h1, h2, rfl, fun j y hj hj1 hj2 => ?_⟩
    by_cases e : j = k
    · subst e; rw [hx] at hj1; simp at hj1
    · exact hu j y (by omega) hj1 hj2
theorem lowTo_first {who : List Int} {hs : List Bool} {k : Nat} {x : Int} (h : LowTo who hs k (-1)) (hx : hs[k]? = some true) (hw : who[k]? = some x) : LowTo who hs (k + 1) k := by
  rcases h with ⟨_, hu⟩ | ⟨i, x', hi, h1, h2, e, hu⟩
  · refine .inr ⟨k, x, by omega, hx, hw, rfl, fun j y hj hj1 hj2 => ?_⟩
    by_cases e : j = k
    · subst e; rw [hw] at hj2; cases hj2; omega
    · exact absurd hj1 (hu j (by omega))
  · omega
theorem lowTo_less {who : List Int} {hs : List Bool} {k i : Nat} {x y : Int} (h : LowTo who hs k i) (hy : who[i]? = some y) (hx : hs[k]? = some true) (hw : who[k]? = some x) (hlt : x < y) : LowTo who hs (k + 1) k := by
  rcases h with ⟨e, hu⟩ | ⟨i', x', hi, h1, h2, e, hu⟩
  · omega
  · obtain rfl : i' = i := by omega
    rw [hy] at h2; cases h2
    refine .inr ⟨k, x, by omega, hx, hw, rfl, fun j z hj hj1 hj2 => ?_⟩
    by_cases e : j = k
    · subst e; rw [hw] at hj2; cases hj2; omega
    · have := hu j z (by omega) hj1 hj2; omega
theorem lowTo_stay {who : List Int} {hs : List Bool} {k i : Nat} {x y : Int} (h : LowTo who hs k i) (hy : who[i]? = some y) (hw : who[k]? = some x) (hle : y ≤ x) : LowTo who hs (k + 1) i := by
  rcases h with ⟨e, hu⟩ | ⟨i', x', hi, h1, h2, e, hu⟩
  · omega
  · obtain rfl : i' = i := by omega
    rw [hy] at h2; cases h2
    refine .inr ⟨i', y, by omega, h1, hy, rfl, fun j z hj hj1 hj2 => ?_⟩
    by_cases e : j = k
    · subst e; rw [hw] at hj2; cases hj2; omega
    · exact hu j z (by omega) hj1 hj2

/-- The places' table, behind the first k: by node, its place in the list, from 1 on; 0: it is not there. -/
structure PlArr (who : List Int) (k : Nat) (arr : List Int) : Prop where
  len : arr.length = 16
  put : ∀ (i : Nat) (x : Int), i < k → who[i]? = some x → 0 ≤ x ∧ x < 16 ∧ arr[x.toNat]? = some ((i : Int) + 1)
  get : ∀ (p : Nat) (v : Int), arr[p]? = some v → v = 0 ∨ ∃ i : Nat, i < k ∧ v = i + 1 ∧ who[i]? = some (p : Int)
theorem plArr_zero (who : List Int) : PlArr who 0 (List.replicate 16 0) := ⟨rfl, fun i x h => by omega, fun p v h => by
  left; have := List.mem_of_getElem? h; exact List.eq_of_mem_replicate this⟩
theorem plArr_succ {who : List Int} {k p : Nat} {arr : List Int} (h : PlArr who k arr) (hx : who[k]? = some (p : Int)) (hp : p < 16) (h0 : arr[p]? = some 0) : PlArr who (k + 1) (arr.set p ((k : Int) + 1)) := by
  refine ⟨by rw [List.length_set]; exact h.len, fun i x hi hw => ?_, fun p' v hv => ?_⟩
  · by_cases e : i = k
    · subst e; rw [hx] at hw; cases hw
      refine ⟨by omega, by omega, ?_⟩
      rw [Int.toNat_natCast, List.getElem?_set_self (by rw [h.len]; exact hp)]
    · obtain ⟨a, b, c⟩ := h.put i x (by omega) hw
      refine ⟨a, b, ?_⟩
      rw [List.getElem?_set_ne]
      · exact c
      · intro e2; subst e2; rw [c] at h0; simp at h0; omega
  · by_cases e : p' = p
    · subst e
      rw [List.getElem?_set_self (by rw [h.len]; exact hp)] at hv
      cases hv
      exact .inr ⟨k, by omega, rfl, hx⟩
    · rw [List.getElem?_set_ne (fun e2 => e e2.symm)] at hv
      rcases h.get p' v hv with h | ⟨i, hi, a, b⟩
      · exact .inl h
      · exact .inr ⟨i, by omega, a, b⟩
theorem PlArr.apart {who : List Int} {k p : Nat} {arr : List Int} (h : PlArr who k arr) (hx : who[k]? = some (p : Int)) (h0 : arr[p]? = some 0) : upto (fun x => who[k]? ≠ some x) who k := by
  intro j y hj hy e
  rw [hx] at e; cases e
  obtain ⟨_, _, c⟩ := h.put j _ hj hy
  rw [Int.toNat_natCast, h0] at c
  simp at c; omega
theorem PlArr.twice {who : List Int} {k p : Nat} {arr : List Int} {v : Int} (h : PlArr who k arr) (hx : who[k]? = some (p : Int)) (hv : arr[p]? = some v) (h0 : v ≠ 0) : ¬ WhoOk who := by
  rcases h.get p v hv with e | ⟨i, hi, a, b⟩
  · exact absurd e h0
  · exact bad_twice hx b hi
/-- A node in the table: its place. -/
theorem PlArr.here {who : List Int} {arr : List Int} {p : Nat} {v : Int} (h : PlArr who who.length arr) (hv : arr[p]? = some v) (h0 : v ≠ 0) : ∃ i : Nat, v = i + 1 ∧ who[i]? = some (p : Int) ∧ i < who.length := by
  rcases h.get p v hv with e | ⟨i, hi, a, b⟩
  · exact absurd e h0
  · exact ⟨i, a, b, hi⟩
theorem PlArr.gone {who : List Int} {arr : List Int} {p : Nat} (h : PlArr who who.length arr) (hv : arr[p]? = some 0) : (p : Int) ∉ who := fun hm => by
  obtain ⟨i, hi, e⟩ := List.getElem_of_mem hm
  obtain ⟨_, _, c⟩ := h.put i p hi (by rw [List.getElem?_eq_getElem hi, e])
  rw [Int.toNat_natCast, hv] at c; simp at c; omega
end Go.Proofs.Ytcffhfcjfjfokaa
/- The document's place. -/
namespace Go.Proofs.Ytcffhfcjfjfokaa
open Go.RowKit
theorem RowAt.intAt {w : World} {N g o : Nat} {l : List Int} (h : RowAt w N 1 eInt (some ⟨g, o, none⟩) l) {k : Nat} (hk : k < l.length) : ∃ x, Hid (l[k]? = some x) ∧ w.cell? ⟨g, o + k, none⟩ = some (.int .i64 x) := by
  obtain ⟨b, off, x, e, _, hx, hc⟩ := h.int hk
  injection e with e; injection e with e1 e2; subst e1 e2
  exact ⟨x, hx, hc⟩
set_option maxHeartbeats 2000000 in
theorem place_any (A : Option Addr) (cA N : Nat) (who : List Int) (t : Int) (w : World) (hN : N ≤ w.heap.size) (hA : RowAt w N 1 eInt A who) (hl : who.length ≤ 9223372036854775807) :
    Calls Try.prog 69 #[.slice A who.length cA, .int .i64 t] w fun x w' => (∃ r, x = .returned (.int .i64 r) ∧ PlaceIs who t r) ∧ Below w.heap.size w w' := by
  go_enter Try.func69, Try.ntmps69
  go_wp2
  go_loopw [5, 6] (fun a k wr => ∃ (q : Nat) (r : Int), k = .int .i64 q ∧ a = .int .i64 r ∧ q ≤ who.length ∧ PlTo who t q r ∧ upto nodeIn who q ∧ apartTo who q ∧ Below w.heap.size w wr) (fun _ k _ => who.length - (intOf k).toNat)
  case atStart => exact ⟨0, -1, rfl, rfl, by omega, plTo_zero _ _, upto_zero _ _, apartTo_zero _, Below.refl _ _⟩
  case round =>
    obtain ⟨q, r, rfl, rfl, hq, hpl, hup, hap, hb⟩ := hrel
    replace hpl := Lib.hid hpl
    replace hup := Lib.hid hup
    replace hap := Lib.hid hap
    by_cases hlt : q < who.length
    · obtain ⟨g, o, x, rfl, hg, hx, hc⟩ := (hA.below hb hN).int hlt
      by_cases h0 : x < 0
      · go_wp2
        go_ret
        exact ⟨⟨-1, rfl, place_bad (bad_in hx.out (.inl h0))⟩, hb⟩
      · by_cases h1 : 16 ≤ x
        · go_wp2
          go_ret
          exact ⟨⟨-1, rfl, place_bad (bad_in hx.out (.inr h1))⟩, hb⟩
        · have hup' := Lib.hid (upto_succ (p := nodeIn) hup.out (fun z hz => by rw [hx.out] at hz; cases hz; unfold nodeIn; omega))
          go_wp2
          obtain ⟨wo, hwo⟩ : ∃ wo : World, wo = wr := ⟨_, rfl⟩
          subst hwo
          go_loopw [7] (fun k wr => ∃ j : Nat, k = .int .i64 j ∧ j ≤ q ∧ upto (fun y => who[q]? ≠ some y) who j ∧ Below w.heap.size w wr) (fun k _ => q - (intOf k).toNat)
          case atStart => exact ⟨0, rfl, by omega, upto_zero _ _, hb⟩
          case round =>
            obtain ⟨j, rfl, hj, hja, hb1⟩ := hrel
            replace hja := Lib.hid hja
            have hA1 := hA.below hb1 hN
            obtain ⟨x2, hx2, hc2⟩ := hA1.intAt hlt
            obtain rfl : x = x2 := by have := hx2.out; rw [hx.out] at this; injection this
            have hsz1 := hb1.size
            clear hc
            by_cases hjq : j < q
            · obtain ⟨y, hy, hcy⟩ := hA1.intAt (k := j) (by omega)
              have hjl : j < who.length := by omega
              by_cases hyx : y = x
              · subst hyx
                go_wp2
                go_quiet (fail)
                go_wp2
                go_ret
                exact ⟨⟨-1, rfl, place_bad (bad_twice hx.out hy.out hjq)⟩, below_drewN hb1 _⟩
              · go_wp2
                go_quiet (fail)
                go_wp2
                go_roundw
                case rel => go_light; exact ⟨j + 1, by go_num, by omega, upto_succ hja.out (fun z hz => by rw [hy.out] at hz; cases hz; rw [hx.out]; intro e; injection e with e; exact hyx e.symm), below_drewN hb1 _⟩
                case measure => go_light; simp [intOf]; omega
            · have hap' := Lib.hid (apartTo_succ hap.out (by have : q = j := by omega
                                                             subst this; exact hja.out))
              by_cases hxt : x = t
              · subst hxt
                go_wp2
                go_roundw
                case rel => go_light; exact ⟨q + 1, (q : Int), by go_num, by go_num, by omega, plTo_here hx.out, hup'.out, hap'.out, hb1⟩
                case measure => go_light; simp [intOf]; omega
              · go_wp2
                go_roundw
                case rel => go_light; exact ⟨q + 1, r, by go_num, rfl, by omega, plTo_skip hpl.out hx.out hxt, hup'.out, hap'.out, hb1⟩
                case measure => go_light; simp [intOf]; omega
    · have hq' := Lib.hid (place_all hup.out hap.out hpl.out (by omega))
      go_wp2
      go_ret
      exact ⟨⟨r, rfl, hq'.out⟩, hb⟩
end Go.Proofs.Ytcffhfcjfjfokaa
