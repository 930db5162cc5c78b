import Derived.Test.YtkjnmjilkhigaaaWorth
import Derived.Test.YtkjnmjilkhigaaaKnow
set_option linter.unusedSimpArgs false
set_option linter.unusedVariables false
set_option linter.unnecessarySimpa false
/- The iterator over a path's prefix metrics: the program's. -/
namespace Go.Proofs.Ytkjnmjilkhigaaa
open Go.RowKit Go.Shelf
attribute [local go_sem] Oper.semAt_some

/-- The metric of some steps. -/
def Pb.psum (p : Pb) (pre : List p.Elem) : Int := pre.foldl (fun m x => m + p.br x.1.1 x.1.2) 0
theorem Pb.psum_snoc (p : Pb) (pre : List p.Elem) (x : p.Elem) : p.psum (pre ++ [x]) = p.psum pre + p.br x.1.1 x.1.2 := by simp [Pb.psum]
/-- The metrics of the beginnings. -/
def Pb.psums (p : Pb) (pre : List p.Elem) : List Int := (List.range (pre.length + 1)).map fun k => p.psum (pre.take k)
theorem Pb.psums_nil (p : Pb) : p.psums [] = [0] := rfl
theorem Pb.psums_snoc (p : Pb) (pre : List p.Elem) (x : p.Elem) : p.psums (pre ++ [x]) = p.psums pre ++ [p.psum (pre ++ [x])] := by
  unfold Pb.psums
  rw [List.length_append, List.length_singleton, List.range_succ, List.map_append]
  congr 1
  · apply List.map_congr_left
    intro k hk
    have : k ≤ pre.length := by simp at hk; omega
    rw [List.take_append_of_le_length this]
  · rw [List.map_singleton, List.take_of_length_le (by simp)]
theorem Pb.psums_len (p : Pb) (pre : List p.Elem) : (p.psums pre).length = pre.length + 1 := by simp [Pb.psums]
theorem Pb.br_bd (p : Pb) (h : probChk p = 0) (d v : Nat) : -12288 ≤ p.br d v ∧ p.br d v ≤ 12288 := by
  obtain ⟨⟨k1, k2⟩, l1, l2, cr, hwin, ⟨v1, v2⟩, hlev, hcc, htt⟩ := probChk_ok h
  have hl16 : ∀ x ∈ p.lv d, x < 16 := fun x hx => by
    have := hlev x (List.mem_of_mem_drop (List.mem_of_mem_take hx))
    omega
  have := brS_bd htt (p.C.y_lt v) hl16 p.C.R.toNat
  unfold Pb.br
  omega
theorem foldl_bound {α : Type} {f : α → Int} {c : Int} (h : ∀ x, -c ≤ f x ∧ f x ≤ c) : ∀ (l : List α) (m : Int), m - c * l.length ≤ l.foldl (fun m x => m + f x) m ∧ l.foldl (fun m x => m + f x) m ≤ m + c * l.length
  | [], m => by simp
  | x :: l, m => by
    have h1 := h x
    have h2 := foldl_bound h l (m + f x)
    simp only [List.foldl_cons, List.length_cons]
    have e : c * ((l.length + 1 : Nat) : Int) = c * (l.length : Int) + c := by push_cast; rw [Int.mul_add, Int.mul_one]
    rw [e]
    omega
theorem Pb.psum_bd (p : Pb) (h : probChk p = 0) (pre : List p.Elem) : -12288 * (pre.length : Int) ≤ p.psum pre ∧ p.psum pre ≤ 12288 * (pre.length : Int) := by
  have := foldl_bound (f := fun x : p.Elem => p.br x.1.1 x.1.2) (c := 12288) (fun x => p.br_bd h x.1.1 x.1.2) pre 0
  unfold Pb.psum
  omega
theorem score_path (v : Value) (p : Pb) (ab : Option Addr) (nb cb : Nat) (w : World) :
    Calls Try.prog 83 #[.agg (p.cells v), .slice ab nb cb] w fun e w' => (∃ b1 b2, e = .returned (.func (.func 98) #[] #[.pointer (some ⟨b1, 0, none⟩), .pointer (some ⟨b2, 0, none⟩)]) ∧ Box w' b1 (p.cells v) ∧ Box w' b2 #[.slice ab nb cb] ∧ w.heap.size ≤ b1 ∧ w.heap.size ≤ b2) ∧ Below w.heap.size w w' := by
  go_enter Try.func83, Try.ntmps83
  go_upto_region 1 with (fail)
  refine name2 ?_
  intro w0 b2 b3 B0
  go_wp2
  go_ret
  exact ⟨⟨_, _, rfl, b2, b3, Nat.le_refl _, by omega⟩, B0⟩
end Go.Proofs.Ytkjnmjilkhigaaa
/- The iterator over a path's prefix metrics, which ranges over the path's own. -/
namespace Go.Proofs.Ytkjnmjilkhigaaa
open Go.RowKit Go.Shelf
attribute [local go_sem] Oper.semAt_some

theorem roundIn_any {P : Program} {m m' l l2 : Nat} {f : FuncId} {tmps : Array Value} {assign body : Code} {w : World} {R : Ending → World → Prop} (h : RoundIn Fence.wide m P l f tmps assign body w R) : RoundIn (Fence.wide.inRound l2) m' P l f tmps assign body w R :=
  ⟨trivial, fun c cs _ => h.2 c cs (room_wide _)⟩
theorem Bytes.block' {A B : World} {ab : Option Addr} {l : List Nat} {Rd : Nat → Prop} (h : Bytes A ab l) (hK : Kept Rd A B) (r : ∀ b o s, ab = some ⟨b, o, s⟩ → Rd b) (_hR : ∀ k, Rd k → k < A.heap.size) : Bytes B ab l :=
  ⟨fun k hk => by
    obtain ⟨b, o, ha, hc⟩ := h.cell k hk
    exact ⟨b, o, ha, (World.cell?_of_block (hK.block (lt_of_cell hc) (r _ _ _ ha))).trans hc⟩, h.lt⟩
set_option maxRecDepth 5000 in
set_option maxHeartbeats 2000000 in
theorem prefixes_seq (p : Pb) (hp : p.Ok) (h : probChk p = 0) (bs : List Nat) (hbs : p.Path bs) (g o c b1 b2 br bw : Nat) (ab : Option Addr) (cb : Nat) (hcap : p.B.length ≤ c) (Rd : Nat → Prop) (W : World) (n : Nat)
    (x1 : Box W b1 (p.cells (.slice (some ⟨g, o, none⟩) p.B.length c))) (x2 : Box W b2 #[.slice ab bs.length cb]) (x3 : Box W br #[.int .i64 p.C.R])
    (x4 : Box W bw #[.func (.func 81) #[] #[.pointer (some ⟨b1, 0, none⟩), .pointer (some ⟨br, 0, none⟩)]])
    (hw : Bytes W (some ⟨g, o, none⟩) p.B) (hby : Bytes W ab bs) (r1 : Rd b1) (r2 : Rd b2) (r3 : Rd br) (r4 : Rd bw) (r5 : Rd g) (r6 : ∀ b o s, ab = some ⟨b, o, s⟩ → Rd b) (hRW : ∀ k, Rd k → k < W.heap.size) :
    SeqAt n Try.prog 82 #[.pointer (some ⟨b1, 0, none⟩), .pointer (some ⟨b2, 0, none⟩), .pointer (some ⟨bw, 0, none⟩)] (fun m : Int => #[.int .i64 m]) (fun xs => xs = p.psums (p.pathL bs)) (p.N.toNat + 1) Rd W := by
  intro l J hJ hY h0
  refine callsIn_of_wp_marks Try.func82 rfl trivial ?_ rfl
  simp only [Try.ntmps82, List.size_toArray, List.length_cons, List.length_nil, Nat.reduceAdd, Nat.reduceSub, Array.replicate_succ, Array.replicate_zero, List.push_toArray, List.append_toArray, List.nil_append, List.cons_append]
  refine wpIn_wide.2 ?_
  go_upto_region 2 with (fail)
  refine name2 ?_
  intro w0 b4 b5 B0
  obtain ⟨H0, hH0⟩ : ∃ H0 : Nat → Prop, H0 = fun k => k = W.heap.size ∨ k = W.heap.size + 1 := ⟨_, rfl⟩
  have J0 : J H0 [] w0 := hJ _ _ _ _ _ h0 (Turn.ofBelow B0) (fun k hk => by
    rw [hH0] at hk
    have := b5.lt
    rcases hk with rfl | rfl
    · exact ⟨.inr (Nat.le_refl _), by omega⟩
    · exact ⟨.inr (by omega), by omega⟩)
  have c4 := b4.cell 0
  have c5 := b5.cell 0
  simp only [List.getElem?_toArray, List.getElem?_cons_zero] at c4 c5
  obtain ⟨fn, tmps, assign, body, hy, hRd⟩ := hY _ _ 0 w0 J0 (by simp) (fun k hk => by rw [hH0] at hk; rcases hk with rfl | rfl <;> omega)
  dsimp only at hy
  refine (wpIn_wide (n := n)).1 (wpIn_region_lit ?_)
  gi_wp2
  refine ⟨fun h => (by cases h), hRd.mono ?_⟩
  rintro e w1 ⟨rfl, J1, K1⟩
  clear c4 c5 hRd hy
  gi_wp2
  have y1 := K1.box (x1.kept B0) (.inl r1)
  have y2 := K1.box (x2.kept B0) (.inl r2)
  obtain ⟨fk, fr, flev, fl, fwin, fcode, ftable, fall⟩ := y1.prob hp
  clear fk fr flev fl fwin fcode ftable
  have c2 := y2.cell 0
  simp only [List.getElem?_toArray, List.getElem?_cons_zero] at c2
  go_wp2_with ((with_reducible apply ld); rfl; (with_reducible assumption); (simp only [List.set_cons_zero, List.set_cons_succ]; rfl))
  refine (score_path _ p ab bs.length cb w1).mono ?_
  rintro e w2 ⟨⟨q1, q2, rfl, z1, z2, hq1, hq2⟩, B2⟩
  clear fall c2
  go_wp2_with fail
  have hs0 : W.heap.size + 2 ≤ w0.heap.size := by have := b5.lt; omega
  have hs1 : w0.heap.size ≤ w1.heap.size := K1.size
  have hs2 := B2.size
  have hlq1 := z1.lt
  have hlq2 := z2.lt
  -- the blocks that this iterator holds while the inner loop runs
  obtain ⟨H1, hH1⟩ : ∃ H1 : Nat → Prop, H1 = fun k => k = W.heap.size ∨ k = W.heap.size + 1 ∨ k = q1 ∨ k = q2 := ⟨_, rfl⟩
  obtain ⟨R1, hR1⟩ : ∃ R1 : Nat → Prop, R1 = fun k => Rd k ∨ k = W.heap.size ∨ k = q1 ∨ k = q2 := ⟨_, rfl⟩
  have b42 : Box w2 W.heap.size #[.func (.yield l) #[] #[]] := (K1.box b4 (.inr (by rw [hH0]; exact .inl rfl))).kept B2
  have b52 : Box w2 (W.heap.size + 1) #[.int .i64 0] := (K1.box b5 (.inr (by rw [hH0]; exact .inr rfl))).kept B2
  have J2 : J H1 [0] w2 := hJ _ _ _ _ _ J1 (Turn.ofBelow B2) (fun k hk => by
    rw [hH1] at hk
    rw [hH0]
    rcases hk with rfl | rfl | rfl | rfl
    · exact ⟨.inl (.inl rfl), by omega⟩
    · exact ⟨.inl (.inr rfl), by omega⟩
    · exact ⟨.inr hq1, by omega⟩
    · exact ⟨.inr hq2, by omega⟩)
  have KR : Kept Rd W w2 := ((Turn.ofBelow B0 : Kept Rd W w0).trans (Turn.mono K1 fun k _ hn hx => hn (.inl hx))).trans (Turn.ofBelow B2)
  refine (wpIn_wide (n := n)).1 (wp_rangeSeq (n := n) (gf := 98) (lb := #[.pointer (some ⟨q1, 0, none⟩), .pointer (some ⟨q2, 0, none⟩)]) rfl (EnterF.out (P := Try.prog)) (encs := p.enc) (S := fun xs => xs = p.pathL bs) (N := p.N.toNat) (Rd := R1) ?hseq ?hRd (fun x => rfl)
    (fun H pre A => Box A (W.heap.size + 1) #[.int .i64 (p.psum pre)] ∧ Kept R1 w2 A ∧ J (fun k => H k ∨ H1 k) (p.psums pre) A) ?hI ?h0 ?hround ?hdone)
  case hseq =>
    intro A hA
    exact path_seq p hp h bs hbs _ ab cb q1 q2 R1 A _ (z1.kept hA) (z2.kept hA) (hby.block' ((KR.trans (Turn.ofBelow hA))) r6 hRW) (by rw [hR1]; exact .inr (.inr (.inl rfl))) (by rw [hR1]; exact .inr (.inr (.inr rfl))) (fun b o s he => by rw [hR1]; exact .inl (r6 b o s he))
  case hRd =>
    intro k hk
    rw [hR1] at hk
    rcases hk with hk | rfl | rfl | rfl
    · have := hRW k hk; omega
    · omega
    · omega
    · omega
  case hI =>
    rintro H H' s A A' ⟨i1, i2, i3⟩ hT hH hH'
    refine ⟨hT.box i1 (fun hx => by have := hH _ hx; omega), i2.trans (Turn.mono hT fun k hk hx hr => ?_), hJ _ _ _ _ _ i3 (hT.mono fun k _ hx => .inl hx) (fun k hk => ?_)⟩
    · have h1 := hH _ hx
      rw [hR1] at hr
      rcases hr with hr | rfl | rfl | rfl
      · have := hRW k hr; omega
      · omega
      · omega
      · omega
    · have hsz := i2.size
      have hsT := hT.size
      rcases hk with hk | hk
      · obtain ⟨h1, h2⟩ := hH' k hk
        exact ⟨h1.imp .inl id, h2⟩
      · refine ⟨.inl (.inr hk), ?_⟩
        rw [hH1] at hk
        rcases hk with rfl | rfl | rfl | rfl <;> omega
  case h0 =>
    exact ⟨b52, Turn.refl _ _, hJ _ _ _ _ _ J2 (Turn.refl _ _) (fun k hk => by
      rcases hk with hk | hk
      · exact hk.elim
      · refine ⟨.inl hk, ?_⟩
        rw [hH1] at hk
        rcases hk with rfl | rfl | rfl | rfl <;> omega)⟩
  case hround =>
    rintro l2 H pre x A ⟨i1, i2, i3⟩ hlen hH hl2
    have hbz := Box.new A #[.int .u8 0, .int .u8 0, .int .u8 0] 129
    have hfl : Flat (ya (p.C.y x.1.2)) := ya_flat _
    have hA2 := i2.size
    simp only [Pb.enc]
    gi_wp2_with ((with_reducible apply stIn); exact fn_round _; rfl; rfl; exact hbz; rfl; rfl; exact hfl; intro w4 b7 B4 ho4 hs4)
    have B4A : Below A.heap.size A w4 := ((Below.refl _ A).alloc (Nat.le_refl _) _).trans B4
    refine ⟨Turn.ofBelow B4A, fun w5 hT5 => ?_⟩
    have hs4' := B4A.size
    have hs5 := hT5.size
    have hlA : l2 < A.heap.size := (hH _ hl2).2
    have hgl2 := (hH _ hl2).1
    have i15 : Box w5 (W.heap.size + 1) #[.int .i64 (p.psum pre)] := hT5.box (i1.kept B4A) (by omega)
    have b75 : Box w5 A.heap.size (ya (p.C.y x.1.2)) := hT5.box b7 (by omega)
    have hlR : ¬R1 l2 := fun hx => by
      rw [hR1] at hx
      rcases hx with hx | rfl | rfl | rfl
      · have := hRW _ hx; omega
      · omega
      · omega
      · omega
    have K5 : Kept R1 w2 w5 := (i2.trans (Turn.ofBelow B4A)).trans (Turn.mono hT5 fun k _ hk hx => hlR (hk ▸ hx))
    have K5W : Kept Rd W w5 := KR.trans (Turn.mono K5 fun k _ hn hx => hn (by rw [hR1]; exact .inl hx))
    have y1 := K5W.box x1 r1
    have y3 := K5W.box x3 r3
    have y4 := K5W.box x4 r4
    have y5 := hw.block' K5W (fun b o' s he => by obtain ⟨rfl, _⟩ : g = b ∧ o = o' := by simp at he; exact ⟨he.1, he.2.1⟩
                                                  exact r5) hRW
    have c5 := i15.cell 0
    have cw := y4.cell 0
    simp only [List.getElem?_toArray, List.getElem?_cons_zero] at c5 cw
    have gY := b75.load (off := 0) (n := 3) (cs' := ya (p.C.y x.1.2)) (by rw [ya_size]; omega) (Array.extract_eq_self_of_le (by rw [ya_size]; omega))
    have hxN : (x.1.1 : Int) < p.N := by have := x.2; omega
    refine wpIn_block (wpIn_seq ?_)
    refine wpIn_region_det_tail 6 (by kernel_rfl) (by kernel_rfl) rfl ?_
    simp only [List.take_succ_cons, List.take_zero, List.drop_succ_cons, List.drop_zero]
    have q0 := KeptW.cell c5
    have qw := KeptW.cell cw
    repeat first
      | ((refine det_plain rfl ?_); ((with_reducible apply q_ld); rfl; (with_reducible assumption); (simp only [List.set_cons_zero, List.set_cons_succ]; rfl)); (refine wpQuiet_nil ?_))
      | ((with_reducible apply det_call); rfl; infer_instance; rfl; (intro w1 B1; exact score_worth p hp h g o c b1 br hcap x.1.1 hxN x.1.2 w1 (y1.kept B1) (y3.kept B1) (y5.kept B1)); (simp only [List.set_cons_zero, List.set_cons_succ]; rfl))
      | ((refine det_plain rfl ?_); (go_big_quiet_step (fail)); (refine wpQuiet_nil ?_))
    refine wpDet_nil ?_
    intro w6 B6
    clear q0 qw c5 cw gY
    have hbnd := p.psum_bd h pre
    have hbr := p.br_bd h x.1.1 x.1.2
    have hN : p.N ≤ 1055 := by
      obtain ⟨⟨k1, k2⟩, l1, l2, _⟩ := probChk_ok h
      unfold Pb.N
      omega
    have hsum : wrap64 (p.psum pre + p.br x.1.1 x.1.2) = p.psum (pre ++ [x]) := by
      rw [p.psum_snoc]
      unfold wrap64
      omega
    have i16 := i15.kept B6
    have c5 := i16.cell 0
    have f5 := i16.frozen 0
    have y46 : Box w6 W.heap.size #[.func (.yield l) #[] #[]] := (K5.box b42 (by rw [hR1]; exact .inr (.inl rfl))).kept B6
    have c4 := y46.cell 0
    simp only [List.getElem?_toArray, List.getElem?_cons_zero] at c5 c4
    obtain ⟨w7, hw7⟩ : ∃ w7, w7 = w6.setCell ⟨W.heap.size + 1, 0, none⟩ (.int .i64 (p.psum (pre ++ [x]))) := ⟨_, rfl⟩
    have J5 : J (fun k => H k ∨ H1 k) (p.psums pre) w7 := by
      have hT : Turn (fun k => H k ∨ H1 k) A w7 := by
        rw [hw7]
        exact (((Turn.ofBelow B4A).trans (Turn.mono hT5 fun k _ hk => hk ▸ .inl hl2)).trans (Turn.ofBelow B6)).trans (Turn.setCell _ _ _ (.inr (by rw [hH1]; exact .inr (.inl rfl))))
      exact hJ _ _ _ _ _ i3 hT (fun k hk => ⟨.inl hk, by
        have hszT := hT.size
        rcases hk with hk | hk
        · have := (hH k hk).2; omega
        · rw [hH1] at hk
          rcases hk with rfl | rfl | rfl | rfl <;> omega⟩)
    have i17 : Box w7 (W.heap.size + 1) #[.int .i64 (p.psum (pre ++ [x]))] := by rw [hw7]; exact (i16.setCell _).cast rfl
    have y47 : Box w7 W.heap.size #[.func (.yield l) #[] #[]] := by rw [hw7]; exact y46.setOther (by simp) _
    obtain ⟨fn2, tmps2, assign2, body2, hy2, hR2⟩ := hY _ _ (p.psum (pre ++ [x])) w7 J5 (by rw [p.psums_len]; omega) (fun k hk => by
      rcases hk with hk | hk
      · have := (hH k hk).1; omega
      · rw [hH1] at hk
        rcases hk with rfl | rfl | rfl | rfl <;> omega)
    have g4 := y47.cell 0
    have g5 := i17.cell 0
    simp only [List.getElem?_toArray, List.getElem?_cons_zero] at g4 g5
    subst hw7
    gi_wp2
    refine ⟨fun h => (by cases h), (roundIn_any hR2).mono ?_⟩
    rintro e w8 ⟨rfl, J8, K8⟩
    gi_wp2
    have hRH : ∀ k, R1 k → Rd k ∨ (H k ∨ H1 k) := fun k hk => by
      rw [hR1] at hk
      rw [hH1]
      rcases hk with hk | hk | hk | hk
      · exact .inl hk
      · exact .inr (.inr (.inl hk))
      · exact .inr (.inr (.inr (.inr (.inl hk))))
      · exact .inr (.inr (.inr (.inr (.inr hk))))
    have hb5 : ¬(R1 (W.heap.size + 1) ∨ H (W.heap.size + 1)) := fun hx => by
      rcases hx with hx | hx
      · rw [hR1] at hx
        rcases hx with hx | hx | hx | hx
        · have := hRW _ hx; omega
        · omega
        · omega
        · omega
      · have := (hH _ hx).1; omega
    have K58 : Kept (fun k => R1 k ∨ H k) w5 _ := ((Turn.ofBelow B6).trans (Turn.setCell _ _ _ hb5)).trans (Turn.mono K8 fun k _ hn hx => hn (hx.elim (hRH k) fun hx => .inr (.inl hx)))
    exact (show roundEnds _ _ _ _ _ .normal _ _ from ⟨K58, K8.box i17 (.inr (.inr (by rw [hH1]; exact .inr (.inl rfl)))), K5.trans (Turn.mono K58 fun k _ hn hx => hn (.inl hx)), by rw [p.psums_snoc]; exact J8⟩)
  case hdone =>
    rintro H xs A rfl ⟨i1, i2, i3⟩ hH hHD hD
    refine ⟨by simp, .inl ⟨_, _, rfl, run_takeDeferred hD, ?_⟩⟩
    refine ⟨_, results_nil rfl, ⟨_, rfl⟩, _, _, rfl, hJ _ (fun k => H k ∨ H1 k) _ _ _ i3 (Turn.putObj _ _ (.inl hHD)) (fun k hk => ⟨.inl hk, ?_⟩), fun k hk => ?_⟩
    · have hsz := i2.size
      rw [World.putObj_size]
      rcases hk with hk | hk
      · exact (hH k hk).2
      · rw [hH1] at hk
        rcases hk with rfl | rfl | rfl | rfl <;> omega
    · rcases hk with hk | hk
      · have := (hH k hk).1; omega
      · rw [hH1] at hk
        rcases hk with rfl | rfl | rfl | rfl <;> omega
end Go.Proofs.Ytkjnmjilkhigaaa

/- The walks of dip and total: the program's. -/
namespace Go.Proofs.Ytkjnmjilkhigaaa
open Go.RowKit Go.Shelf
attribute [local go_sem] Oper.semAt_some

/-- What the prefixes' iterator stands on. -/
structure PrefIn (w : World) (B : Nat) (p : Pb) (v : Value) (hv : Value) (b1 b2 br bw : Nat) : Prop where
  prob : Box w b1 (p.cells v)
  bits : Box w b2 #[hv]
  rate : Box w br #[.int .i64 p.C.R]
  worth : Box w bw #[.func (.func 81) #[] #[.pointer (some ⟨b1, 0, none⟩), .pointer (some ⟨br, 0, none⟩)]]
  new : B ≤ b1 ∧ B ≤ b2 ∧ B ≤ br ∧ B ≤ bw
theorem score_prefixes (p : Pb) (hp : p.Ok) (v : Value) (ab : Option Addr) (nb cb : Nat) (w : World) :
    Calls Try.prog 62 #[.agg (p.cells v), .slice ab nb cb] w fun e w' => (∃ b1 b2 br bw, e = .returned (.func (.func 82) #[] #[.pointer (some ⟨b1, 0, none⟩), .pointer (some ⟨b2, 0, none⟩), .pointer (some ⟨bw, 0, none⟩)]) ∧ PrefIn w' w.heap.size p v (.slice ab nb cb) b1 b2 br bw) ∧ Below w.heap.size w w' := by
  go_enter Try.func62, Try.ntmps62
  go_upto_region 1 with (fail)
  refine name2 ?_
  intro w0 b2 b3 B0
  obtain ⟨fk, fr, flev, fl, fwin, fcode, ftable, fall⟩ := b2.prob hp
  clear fk flev fl fwin fcode ftable fall
  go_upto_region 2 with (fail)
  refine name1 ?_
  intro w1 b5 B1
  have b21 := b2.kept B1
  have b31 := b3.kept B1
  have hl3 := b3.lt
  have bz := Box.new w1 #[.nilFunc] 149
  have hs := bz.store (P := Try.prog) (i := 0) (v := .func (.func 81) #[] #[.pointer (some ⟨w.heap.size, 0, none⟩), .pointer (some ⟨w0.heap.size, 0, none⟩)]) (by simp) ⟨fun _ h => (by cases h), fun _ h => (by cases h)⟩
  have hl1 := b5.lt
  go_wp2
  go_ret
  have hB1 := B1.size
  have hB0 := B0.size
  refine ⟨⟨w.heap.size, w.heap.size + 1, w0.heap.size, w1.heap.size, rfl, ⟨?_, ?_, ?_, ?_, ⟨Nat.le_refl _, by omega, hB0, by omega⟩⟩⟩, ?_⟩
  · exact b21.alloc _
  · exact b31.alloc _
  · exact b5.alloc _
  · exact Box.new _ _ _
  · exact (bOn B0 B1).alloc (by omega) _

/-- The error of a problem and a path. -/
def Pb.pathChk (p : Pb) (bs : List Nat) : Int := if probChk p != 0 then probChk p else if bs.any (fun x => decide (1 < x)) then 10 else if (bs.length : Int) != p.L then 5 else 0
theorem Pb.pathChk_ok {p : Pb} {bs : List Nat} (h : p.pathChk bs = 0) : probChk p = 0 ∧ p.Path bs := by
  unfold Pb.pathChk at h
  by_cases h1 : probChk p = 0
  · rw [if_neg (by simp [h1])] at h
    cases h2 : bs.any (fun x => decide (1 < x))
    · rw [h2] at h
      by_cases h3 : (bs.length : Int) = p.L
      · refine ⟨h1, h3, fun x hx => ?_⟩
        have := List.any_eq_false.1 h2 x hx
        simp at this
        omega
      · rw [if_neg (by simp), if_pos (by simpa using h3)] at h
        cases h
    · rw [h2] at h; simp at h
  · rw [if_pos (by simpa using h1)] at h
    exact absurd h h1
set_option maxRecDepth 5000 in
theorem score_both (p : Pb) (a : Option Addr) (cap : Nat) (hp : p.Ok) (bs : List Nat) (ab : Option Addr) (cb : Nat) (hbl : (bs.length : Int) ≤ 9223372036854775807) (w : World) (hw : Bytes w a p.B) (hby : Bytes w ab bs) :
    Pure Try.prog 61 #[.agg (p.cells (.slice a p.B.length cap)), .slice ab bs.length cb] w (.int .i64 (p.pathChk bs)) := by
  obtain ⟨r, hr⟩ : ∃ r, r = p.pathChk bs := ⟨_, rfl⟩
  rw [← hr]
  have HR := Lib.hid hr
  clear hr
  go_enter Try.func61, Try.ntmps61
  go_upto_region 1 with (fail)
  refine name1 ?_
  intro w0 b2 B0
  obtain ⟨fk, fr, flev, fl, fwin, fcode, ftable, fall⟩ := b2.prob hp
  clear fk fr flev fl fwin fcode ftable
  by_cases hc : probChk p = 0
  · go_wp2_with ((with_reducible apply ld); rfl; (with_reducible assumption); (simp only [List.set_cons_zero, List.set_cons_succ]; rfl))
    refine (score_Check p a cap hp _ (hw.kept B0)).mono ?_
    rintro e w1 ⟨rfl, B1⟩
    rw [hc]
    clear fall
    have b21 := b2.kept B1
    have hb1 := (hby.kept B0).kept B1
    obtain ⟨fk, fr, flev, fl, fwin, fcode, ftable, fall⟩ := b21.prob hp
    clear fk fr flev fwin fcode ftable fall
    go_wp2_with fail
    go_loop [15] (fun i => ∃ k : Nat, k ≤ bs.length ∧ i = .int .i64 k ∧ Hid ((bs.take k).any (fun x => decide (1 < x)) = false)) (fun i => bs.length - (intOf i).toNat)
    case atStart => exact ⟨0, by omega, rfl, Lib.hid rfl⟩
    case round =>
      obtain ⟨k, hk, rfl, HK⟩ := hrel
      by_cases hkl : k < bs.length
      · obtain ⟨b, o, rfl, hcell⟩ := hb1.cell k hkl
        have hk2 : decide ((k : Int) < bs.length) = true := by simp; omega
        have hk3 : (k : Int) < bs.length := by omega
        have hx0 := hby.lt _ (List.getElem_mem hkl)
        by_cases hx : 1 < bs[k]
        · have hx2 : decide ((1 : Int) < (bs[k] : Nat)) = true := by simp; omega
          have hre : (10 : Int) = r := by
            rw [HR.out]
            unfold Pb.pathChk
            rw [if_neg (by simp [hc]), if_pos (any_get hkl (by simpa using hx))]
          clear HR
          subst hre
          go_wp2
          go_ret
          exact ⟨rfl, bOn B0 B1⟩
        · have hx2 : decide ((1 : Int) < (bs[k] : Nat)) = false := by simp; omega
          have HK2 := any_take_hid (p := fun x => decide (1 < x)) hkl HK.out (by simpa using hx)
          clear hx
          go_wp2
          go_round
          case measure => simp only [intOf]; omega
          case rel => exact ⟨k + 1, by omega, by go_num, HK2⟩
      · obtain rfl : k = bs.length := by omega
        have hany := HK.out
        rw [List.take_length] at hany
        by_cases hlen : (bs.length : Int) = p.L
        · have hl2 : ((bs.length : Int) != p.L) = false := by simp [hlen]
          have hre : (0 : Int) = r := by
            rw [HR.out]
            unfold Pb.pathChk
            rw [if_neg (by simp [hc]), if_neg (by simp [hany]), if_neg (by simp [hlen])]
          have HLEN := Lib.hid hlen
          clear HR hlen hany
          subst hre
          go_wp2
          go_ret
          exact ⟨rfl, bOn B0 B1⟩
        · have hl2 : ((bs.length : Int) != p.L) = true := by simp [hlen]
          have hre : (5 : Int) = r := by
            rw [HR.out]
            unfold Pb.pathChk
            rw [if_neg (by simp [hc]), if_neg (by simp [hany]), if_pos (by simp [hlen])]
          clear HR hlen hany
          subst hre
          go_wp2
          go_ret
          exact ⟨rfl, bOn B0 B1⟩
  · have hz : (probChk p != 0) = true := by simp [hc]
    have hre : probChk p = r := by
      rw [HR.out]
      unfold Pb.pathChk
      rw [if_pos hz]
    clear HR
    subst hre
    go_wp2_with ((with_reducible apply ld); rfl; (with_reducible assumption); (simp only [List.set_cons_zero, List.set_cons_succ]; rfl))
    refine (score_Check p a cap hp _ (hw.kept B0)).mono ?_
    rintro e w1 ⟨rfl, B1⟩
    go_wp2
    go_ret
    exact ⟨rfl, bOn B0 B1⟩
end Go.Proofs.Ytkjnmjilkhigaaa

/- The walks of dip and total: the program's. -/
namespace Go.Proofs.Ytkjnmjilkhigaaa
open Go.RowKit Go.Shelf
attribute [local go_sem] Oper.semAt_some

theorem bodyPostM_ret {n : Nat} {P : Program} {fn : Func} {R : Ending → World → Prop} {tmps : Array Value} {w : World} {v : Value} (hr : (results fn tmps).run P w = .ok v w) (hR : R (.returned v) w) : bodyPostM Fence.wide n P fn R .ret ⟨tmps, []⟩ w := ⟨v, hr, hR⟩
theorem run_loadVar_cell {P : Program} {t : TypeId} (T : CellTy P t) {w : World} {b : Nat} {v : Value} (h : w.cell? ⟨b, 0, none⟩ = some v) : (loadVar t ⟨b, 0, none⟩).run P w = .ok v w := by
  simp [loadVar, Sem.run_bind, run_isCell T, load, Sem.run, h]
theorem results_cells2tmp {P : Program} {fn : Func} {t0 ty0 t1 ty1 t2 b0 b1 : Nat} {tmps : Array Value} {w : World} {v0 v1 v2 : Value} [T0 : CellTy P ty0] [T1 : CellTy P ty1] (h : fn.results = #[.cell t0 ty0, .cell t1 ty1, .tmp t2]) (p0 : tmps.getD t0 undef = .pointer (some ⟨b0, 0, none⟩)) (p1 : tmps.getD t1 undef = .pointer (some ⟨b1, 0, none⟩)) (h2 : tmps.getD t2 undef = v2)
    (x0 : Box w b0 #[v0]) (x1 : Box w b1 #[v1]) : (results fn tmps).run P w = .ok (.tuple #[v0, v1, v2]) w := by
  have l0 := run_loadVar_cell T0 (v := v0) ((x0.cell 0).trans rfl)
  have l1 := run_loadVar_cell T1 (v := v1) ((x1.cell 0).trans rfl)
  simp only [Array.getD_eq_getD_getElem?] at p0 p1 h2
  simp [results, h, p0, p1, h2, asAddr, Sem.run_bind, l0, l1]
/-- The prefix metrics of a path. -/
def Pb.pm (p : Pb) (bs : List Nat) : List Int := p.psums (p.pathL bs)
def dipOf (l : List Int) : Int := l.foldl min 0
theorem dipOf_snoc (l : List Int) (m : Int) : dipOf (l ++ [m]) = min (dipOf l) m := by simp [dipOf]
def lastOf (l : List Int) : Int := l.getLastD 0
theorem lastOf_snoc (l : List Int) (m : Int) : lastOf (l ++ [m]) = m := by simp [lastOf]
set_option maxRecDepth 5000 in
set_option maxHeartbeats 1000000 in
theorem score_Both (p : Pb) (g o cap : Nat) (hp : p.Ok) (hcap : p.B.length ≤ cap) (bs : List Nat) (ab : Option Addr) (cb : Nat) (hbl : (bs.length : Int) ≤ 9223372036854775807) (hc : p.pathChk bs = 0) (w : World) (hw : Bytes w (some ⟨g, o, none⟩) p.B) (hby : Bytes w ab bs) :
    Pure Try.prog 42 #[.agg (p.cells (.slice (some ⟨g, o, none⟩) p.B.length cap)), .slice ab bs.length cb] w (.tuple #[.int .i64 (dipOf (p.pm bs)), .int .i64 (lastOf (p.pm bs)), .int .i64 0]) := by
  obtain ⟨hch, hpath⟩ := Pb.pathChk_ok hc
  refine (callsIn_wide (n := 3)).1 (callsIn_of_wp_marks Try.func42 rfl trivial ?_ rfl)
  simp only [Try.ntmps42, List.size_toArray, List.length_cons, List.length_nil, Nat.reduceAdd, Nat.reduceSub, Array.replicate_succ, Array.replicate_zero, List.push_toArray, List.append_toArray, List.nil_append, List.cons_append]
  refine wpIn_wide.2 ?_
  go_upto_region 1 with (fail)
  refine name3 ?_
  intro w0 b2 b4 b5 B0
  obtain ⟨fk, fr, flev, fl, fwin, fcode, ftable, fall⟩ := b2.prob hp
  clear fk fr flev fl fwin fcode ftable
  go_wp2_with ((with_reducible apply ld); rfl; (with_reducible assumption); (simp only [List.set_cons_zero, List.set_cons_succ]; rfl))
  refine (score_both p (some ⟨g, o, none⟩) cap hp bs ab cb hbl _ (hw.kept B0) (hby.kept B0)).mono ?_
  rintro e w1 ⟨rfl, B1⟩
  rw [hc]
  clear fall
  obtain ⟨fk, fr, flev, fl, fwin, fcode, ftable, fall⟩ := (b2.kept B1).prob hp
  clear fk fr flev fl fwin fcode ftable
  go_wp2_with ((with_reducible apply ld); rfl; (with_reducible assumption); (simp only [List.set_cons_zero, List.set_cons_succ]; rfl))
  refine (score_prefixes p hp _ ab bs.length cb w1).mono ?_
  rintro e w2 ⟨⟨q1, q2, qr, qw, rfl, hP⟩, B2⟩
  clear fall
  go_wp2_with fail
  have hs0 := b5.lt
  have hs1 := B1.size
  have hs2 := B2.size
  have hsw := B0.size
  obtain ⟨Rd, hRd⟩ : ∃ Rd : Nat → Prop, Rd = fun k => k < w.heap.size ∨ (w1.heap.size ≤ k ∧ k < w2.heap.size) := ⟨_, rfl⟩
  have Rold : ∀ k, k < w.heap.size → Rd k := fun k h => by rw [hRd]; exact .inl h
  have Rnew : ∀ k, w1.heap.size ≤ k → k < w2.heap.size → Rd k := fun k h h' => by rw [hRd]; exact .inr ⟨h, h'⟩
  have R3 : ∀ k, Rd k → k < w2.heap.size ∧ k ≠ w.heap.size + 1 ∧ k ≠ w.heap.size + 2 := fun k h => by
    rw [hRd] at h
    rcases h with h | h
    · omega
    · omega
  have hgl : g < w.heap.size := by
    obtain ⟨⟨k1, k2⟩, l1, l2, cr, hwin, _⟩ := probChk_ok hch
    have hne : 0 < p.B.length := by
      have h1 : 3 ≤ p.N := by unfold Pb.N; omega
      rcases cr with h | h <;> rw [h] at hwin <;> omega
    obtain ⟨b, o', ha, hc⟩ := hw.cell 0 hne
    obtain ⟨rfl, rfl⟩ : g = b ∧ o = o' := by simpa using ha
    exact lt_of_cell hc
  have hbl2 : ∀ b o s, ab = some ⟨b, o, s⟩ → b < w.heap.size := fun b o' s he => by
    obtain ⟨⟨k1, k2⟩, l1, l2, _⟩ := probChk_ok hch
    have hne : 0 < bs.length := by have := hpath.len; omega
    obtain ⟨b', o2, ha, hc⟩ := hby.cell 0 hne
    rw [he] at ha
    obtain ⟨rfl, _⟩ : b = b' ∧ o' = o2 := by simp at ha; exact ⟨ha.1, ha.2.1⟩
    exact lt_of_cell hc
  have b42 := (b4.kept B1).kept B2
  have b52 := (b5.kept B1).kept B2
  have hw2 := ((hw.kept B0).kept B1).kept B2
  have hby2 := ((hby.kept B0).kept B1).kept B2
  have B20 := bOn (bOn B0 B1) B2
  refine (wpIn_wide (n := 3)).1 (wp_rangeSeq (n := 3) (gf := 82) (lb := #[.pointer (some ⟨q1, 0, none⟩), .pointer (some ⟨q2, 0, none⟩), .pointer (some ⟨qw, 0, none⟩)]) rfl (EnterF.out (P := Try.prog)) (encs := fun m : Int => #[.int .i64 m]) (S := fun xs => xs = p.pm bs) (N := p.N.toNat + 1) (Rd := Rd) ?hseq (fun k hk => (R3 k hk).1) (fun x => rfl)
    (fun _ pre A => Box A (w.heap.size + 1) #[.int .i64 (dipOf pre)] ∧ Box A (w.heap.size + 1 + 1) #[.int .i64 (lastOf pre)] ∧ Below w.heap.size w A ∧ w2.heap.size ≤ A.heap.size) ?hI ⟨b42, b52, B20, Nat.le_refl _⟩ ?hround ?hdone)
  case hseq =>
    intro A hA
    exact prefixes_seq p hp hch bs hpath g o cap q1 q2 qr qw ab cb hcap Rd A _ (hP.prob.kept hA) (hP.bits.kept hA) (hP.rate.kept hA) (hP.worth.kept hA) (hw2.kept hA) (hby2.kept hA) (Rnew _ hP.new.1 hP.prob.lt) (Rnew _ hP.new.2.1 hP.bits.lt) (Rnew _ hP.new.2.2.1 hP.rate.lt) (Rnew _ hP.new.2.2.2 hP.worth.lt) (Rold _ hgl) (fun b o s he => Rold _ (hbl2 b o s he)) (fun k hk => by have := (R3 k hk).1; have := hA.size; omega)
  case hI =>
    rintro H H' s A A' ⟨i1, i2, i3, i4⟩ hT hH hH'
    exact ⟨hT.box i1 (fun hx => by have := hH _ hx; omega), hT.box i2 (fun hx => by have := hH _ hx; omega), i3.trans (hT.below fun k hk => ⟨by omega, fun hx => by have := hH _ hx; omega⟩), Nat.le_trans i4 hT.size⟩
  case hround =>
    rintro l2 H pre x A ⟨i1, i2, i3, i4⟩ hlen hH hl2
    gi_wp2
    refine ⟨Turn.refl _ _, fun w5 hT5 => ?_⟩
    have hgl2 := (hH _ hl2).1
    have j1 := hT5.box i1 (by omega)
    have j2 := hT5.box i2 (by omega)
    have c4 := j1.cell 0
    have c5 := j2.cell 0
    have z4 := j1.frozen 0
    have z5 := j2.frozen 0
    simp only [List.getElem?_toArray, List.getElem?_cons_zero] at c4 c5
    have hmin : (if x < dipOf pre then x else dipOf pre) = dipOf (pre ++ [x]) := by
      rw [dipOf_snoc]
      split <;> omega
    have hs5 := hT5.size
    gi_wp2
    have n4 : ¬(Rd (w.heap.size + 1) ∨ H (w.heap.size + 1)) := fun hx => by
      rcases hx with hx | hx
      · exact (R3 _ hx).2.1 rfl
      · have := (hH _ hx).1; omega
    have n5 : ¬(Rd (w.heap.size + 1 + 1) ∨ H (w.heap.size + 1 + 1)) := fun hx => by
      rcases hx with hx | hx
      · exact (R3 _ hx).2.2 rfl
      · have := (hH _ hx).1; omega
    exact (show roundEnds _ _ _ _ _ .normal _ _ from ⟨(Turn.setCell _ _ _ n4).trans (Turn.setCell _ _ _ n5), ((j1.setCell _).cast rfl).setOther (by simp) _, ((j2.setOther (by simp) _).setCell _).cast (by rw [lastOf_snoc]; rfl),
      ((i3.trans (hT5.below fun k hk => ⟨by omega, fun hx => by omega⟩)).setCell (by simp) _).setCell (by simp; omega) _, by simp [World.setCell]; omega⟩)
  case hdone =>
    rintro H xs A rfl ⟨i1, i2, i3, i4⟩ hH hHD hD
    have c4 := i1.cell 0
    have c5 := i2.cell 0
    have z4 := i1.frozen 0
    have z5 := i2.frozen 0
    simp only [List.getElem?_toArray, List.getElem?_cons_zero] at c4 c5
    go_upto_region 7 with (fail)
    go_region
    have e1 : Box ((A.setCell ⟨w.heap.size + 1, 0, none⟩ (.int .i64 (dipOf (p.pm bs)))).setCell ⟨w.heap.size + 1 + 1, 0, none⟩ (.int .i64 (lastOf (p.pm bs)))).drew (w.heap.size + 1) #[.int .i64 (dipOf (p.pm bs))] := ((i1.setCell _).cast rfl).setOther (p := ⟨w.heap.size + 1 + 1, 0, none⟩) (by simp) _
    have e2 : Box ((A.setCell ⟨w.heap.size + 1, 0, none⟩ (.int .i64 (dipOf (p.pm bs)))).setCell ⟨w.heap.size + 1 + 1, 0, none⟩ (.int .i64 (lastOf (p.pm bs)))).drew (w.heap.size + 1 + 1) #[.int .i64 (lastOf (p.pm bs))] := ((i2.setOther (p := ⟨w.heap.size + 1, 0, none⟩) (by simp) _).setCell _).cast rfl
    have e3 : ((A.setCell ⟨w.heap.size + 1, 0, none⟩ (.int .i64 (dipOf (p.pm bs)))).setCell ⟨w.heap.size + 1 + 1, 0, none⟩ (.int .i64 (lastOf (p.pm bs)))).drew.heap[w2.heap.size]? = some (.deferred (some [])) :=
      (Below.heap_setCell _ _ _ _ (by simp; omega)).trans ((Below.heap_setCell _ _ _ _ (by simp; omega)).trans hD)
    have e4 : Below w.heap.size w ((A.setCell ⟨w.heap.size + 1, 0, none⟩ (.int .i64 (dipOf (p.pm bs)))).setCell ⟨w.heap.size + 1 + 1, 0, none⟩ (.int .i64 (lastOf (p.pm bs)))).drew := ((i3.setCell (by simp) _).setCell (by simp; omega) _).drew
    generalize ((A.setCell ⟨w.heap.size + 1, 0, none⟩ (.int .i64 (dipOf (p.pm bs)))).setCell ⟨w.heap.size + 1 + 1, 0, none⟩ (.int .i64 (lastOf (p.pm bs)))).drew = A' at e1 e2 e3 e4 ⊢
    go_wp2
    refine ⟨by simp, .inl ⟨_, _, rfl, run_takeDeferred e3, ?_⟩⟩
    have hT : Turn (fun k => k = w2.heap.size) A' (A'.putObj w2.heap.size (.deferred none)) := Turn.putObj _ _ rfl
    refine ⟨_, results_cells2tmp rfl rfl rfl rfl (hT.box e1 (by omega)) (hT.box e2 (by omega)), rfl, e4.trans (hT.below fun k hk => ⟨by have := e4.size; omega, by omega⟩)⟩
end Go.Proofs.Ytkjnmjilkhigaaa
/- The walks of dip and total at any path: the program's; what must come of the chapters' example. -/
namespace Go.Proofs.Ytkjnmjilkhigaaa
open Go.RowKit

def Pb.dip (p : Pb) (bs : List Nat) : Int := if p.pathChk bs != 0 then 0 else dipOf (p.pm bs)
def Pb.tot (p : Pb) (bs : List Nat) : Int := if p.pathChk bs != 0 then 0 else lastOf (p.pm bs)
theorem score_Both_bad (p : Pb) (a : Option Addr) (cap : Nat) (hp : p.Ok) (bs : List Nat) (ab : Option Addr) (cb : Nat) (hbl : (bs.length : Int) ≤ 9223372036854775807) (hc : p.pathChk bs ≠ 0) (w : World) (hw : Bytes w a p.B) (hby : Bytes w ab bs) :
    Pure Try.prog 42 #[.agg (p.cells (.slice a p.B.length cap)), .slice ab bs.length cb] w (.tuple #[.int .i64 0, .int .i64 0, .int .i64 (p.pathChk bs)]) := by
  have hz : (p.pathChk bs != 0) = true := by simpa using hc
  go_enter Try.func42, Try.ntmps42
  go_upto_region 1 with (fail)
  refine name3 ?_
  intro w0 b2 b4 b5 B0
  obtain ⟨fk, fr, flev, fl, fwin, fcode, ftable, fall⟩ := b2.prob hp
  clear fk fr flev fl fwin fcode ftable
  go_wp2_with ((with_reducible apply ld); rfl; (with_reducible assumption); (simp only [List.set_cons_zero, List.set_cons_succ]; rfl))
  refine (score_both p a cap hp bs ab cb hbl _ (hw.kept B0) (hby.kept B0)).mono ?_
  rintro e w1 ⟨rfl, B1⟩
  clear fall
  have i1 := b4.kept B1
  have i2 := b5.kept B1
  have c4 := i1.cell 0
  have c5 := i2.cell 0
  have z4 := i1.frozen 0
  have z5 := i2.frozen 0
  simp only [List.getElem?_toArray, List.getElem?_cons_zero] at c4 c5
  go_wp2
  refine bodyPost_ret (results_cells2tmp rfl rfl rfl rfl (((i1.setCell _).cast rfl).setOther (by simp) _) (((i2.setOther (by simp) _).setCell _).cast rfl)) rfl ?_
  exact ⟨rfl, ((bOn B0 B1).setCell (by simp) _).setCell (by simp; omega) _⟩
theorem score_BothG (p : Pb) (a : Option Addr) (cap : Nat) (hp : p.Ok) (hcap : p.B.length ≤ cap) (bs : List Nat) (ab : Option Addr) (cb : Nat) (hbl : (bs.length : Int) ≤ 9223372036854775807) (w : World) (hw : Bytes w a p.B) (hby : Bytes w ab bs) :
    Pure Try.prog 42 #[.agg (p.cells (.slice a p.B.length cap)), .slice ab bs.length cb] w (.tuple #[.int .i64 (p.dip bs), .int .i64 (p.tot bs), .int .i64 (p.pathChk bs)]) := by
  unfold Pb.dip Pb.tot
  by_cases hc : p.pathChk bs = 0
  · rw [if_neg (by simp [hc]), if_neg (by simp [hc]), hc]
    obtain ⟨hch, _⟩ := Pb.pathChk_ok hc
    obtain ⟨⟨k1, k2⟩, l1, l2, cr, hwin, _⟩ := probChk_ok hch
    have hne : 0 < p.B.length := by
      have h1 : 3 ≤ p.N := by unfold Pb.N; omega
      rcases cr with h | h <;> rw [h] at hwin <;> omega
    obtain ⟨g, o, rfl, _⟩ := hw.cell 0 hne
    exact score_Both p g o cap hp hcap bs ab cb hbl hc w hw hby
  · rw [if_pos (by simpa using hc), if_pos (by simpa using hc)]
    exact score_Both_bad p a cap hp bs ab cb hbl hc w hw hby
theorem plain_one : plainPb.pathChk [1] = 0 ∧ plainPb.dip [1] = 0 ∧ plainPb.tot [1] = 6 := by
  refine ⟨by kernel_rfl, by kernel_rfl, by kernel_rfl⟩
theorem plain_zero : plainPb.pathChk [0] = 0 ∧ plainPb.dip [0] = -24 ∧ plainPb.tot [0] = -24 := by
  refine ⟨by kernel_rfl, by kernel_rfl, by kernel_rfl⟩
end Go.Proofs.Ytkjnmjilkhigaaa
