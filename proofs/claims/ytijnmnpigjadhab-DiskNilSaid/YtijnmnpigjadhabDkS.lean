import Derived.Test.YtijnmnpigjadhabDkA
namespace Go.Dk
open Go Go.Rex
set_option maxRecDepth 100000
set_option linter.unusedVariables false

/-! newsreel/newsreellaw11.DiskDoes -/
theorem ok3 : a3.ok = true := by kernel_rfl
noncomputable def l3_1 (c : Cx) (v1 v5 v6 v7 : D) (h : Hp) : Option (List D × Hp) := c.lp 226 (codeA [1, 1, 1, 1, 1, 0, 1, 0] a3.body).bodyOf (blockK 0 (seqK (cpsA c.call c.lp (codeA [1, 1, 1, 1, 1, 1] a3.body)) (finA a3))) ⟨[und, v1, und, und, und, v5, v6, v7, und, und, und, und, und, und, und, und, und, und, und, und, und, und, und, und, und, und, und, und, und, und, und, und, und, und, und, und, und, und, und, und, und, und, und, und, und, und, und, und, und, und, und, und, und, und, und, und, und, und, und, und, und, und, und, und, und, und, und, und, und, und, und, und, und, und, und, und, und, und, und, und, und, und, und, und, und, und, und, und, und, und, und, und, und, und, und, und, und, und, und, und, und, und, und, und, und, und, und, und, und, und, und, und, und, und, und, und, und, und, und, und, und, und, und, und, und, und, und], h⟩
noncomputable def j3_2 (c : Cx) (v1 v5 v6 v7 v8 : D) (h : Hp) : Option (List D × Hp) := cpsA c.call c.lp (codeA [1, 1, 1, 1, 1, 0, 1, 0, 0, 1, 0, 0, 1, 1, 1] a3.body) ⟨[und, v1, und, und, und, v5, v6, v7, v8, und, und, und, und, und, und, und, und, und, und, und, und, und, und, und, und, und, und, und, und, und, und, und, und, und, und, und, und, und, und, und, und, und, und, und, und, und, und, und, und, und, und, und, und, und, und, und, und, und, und, und, und, und, und, und, und, und, und, und, und, und, und, und, und, und, und, und, und, und, und, und, und, und, und, und, und, und, und, und, und, und, und, und, und, und, und, und, und, und, und, und, und, und, und, und, und, und, und, und, und, und, und, und, und, und, und, und, und, und, und, und, und, und, und, und, und, und, und], h⟩ (blockK 1 (seqK (cpsA c.call c.lp (codeA [1, 1, 1, 1, 1, 0, 1, 0, 0, 1, 1] a3.body)) (againK c.lp 226 (codeA [1, 1, 1, 1, 1, 0, 1, 0] a3.body).bodyOf (blockK 0 (seqK (cpsA c.call c.lp (codeA [1, 1, 1, 1, 1, 1] a3.body)) (finA a3))))))
theorem j3_2_eq (c : Cx) (v1 v5 v6 v7 v8 : D) (h : Hp) : j3_2 c v1 v5 v6 v7 v8 h =
  (op h (.ia 6 (.c v1) (.c v7))).bind fun p51 =>
  (op p51.2 (.fa [1, 1, 1, 1, 1, 1] 1 (.c p51.1))).bind fun p52 =>
  (op p52.2 (.ld false 1 (.c p52.1))).bind fun p53 =>
  (c.call 17 [v5, p53.1] p53.2).bind fun p54 =>
  (op p54.2 (.ext (.c p54.1) 0)).bind fun p55 =>
  (op p55.2 (.ext (.c p54.1) 1)).bind fun p56 =>
  (op p56.2 (.ia 6 (.c v1) (.c v7))).bind fun p57 =>
  (op p57.2 (.fa [1, 1, 1, 1, 1, 1] 1 (.c p57.1))).bind fun p58 =>
  (op p58.2 (.ld false 1 (.c p58.1))).bind fun p59 =>
  (c.call 18 [v6, p59.1] p59.2).bind fun p60 =>
  (op p60.2 (.ext (.c p60.1) 0)).bind fun p61 =>
  (op p61.2 (.ext (.c p60.1) 1)).bind fun p62 =>
  (c.call 19 [p55.1, p61.1] p62.2).bind fun p63 =>
  (op p63.2 (.un .not (.c p63.1))).bind fun p64 =>
  (grd p64.1 false (op p64.2 (.mv (.c p56.1))) p64.2).bind fun p65 =>
  (grd p64.1 false (op p65.2 (.mv (.c p62.1))) p65.2).bind fun p66 =>
  (grd p64.1 false (op p66.2 (.bin .neq (.c p65.1) (.c p66.1))) p66.2).bind fun p67 =>
  (op p67.2 (.pick (.c p64.1) (.c (.lit (.bool true))) (.c p67.1))).bind fun p68 =>
  (grd p68.1 false (op p68.2 (.mv (.c v5))) p68.2).bind fun p69 =>
  (grd p68.1 false (c.call 20 [p69.1] p69.2) p69.2).bind fun p70 =>
  (grd p68.1 false (op p70.2 (.mv (.c v8))) p70.2).bind fun p71 =>
  (grd p68.1 false (op p71.2 (.bin .neq (.c p70.1) (.c p71.1))) p71.2).bind fun p72 =>
  (op p72.2 (.pick (.c p68.1) (.c (.lit (.bool true))) (.c p72.1))).bind fun p73 =>
  cnd p73.1
    (fin [.v (.lit (.bool false))] p73.2)
    ((op p73.2 (.bin .add (.c v7) (.c (.lit (.int .i64 1))))).bind fun p74 =>
    l3_1 c v1 v5 v6 p74.1 p74.2) := by kernel_rfl
theorem l3_1_eq (c : Cx) (v1 v5 v6 v7 : D) (h : Hp) : l3_1 c v1 v5 v6 v7 h =
  (op h (.len false (.c v1))).bind fun p19 =>
  (op p19.2 (.bin .lss (.c v7) (.c p19.1))).bind fun p20 =>
  cnd p20.1
    ((op p20.2 (.ia 6 (.c v1) (.c v7))).bind fun p21 =>
    (op p20.2 (.ld true 6 (.c p21.1))).bind fun p22 =>
    (c.call 9 [v5, p22.1] p20.2).bind fun p23 =>
    (op p23.2 (.ia 6 (.c v1) (.c v7))).bind fun p24 =>
    (op p23.2 (.ld true 6 (.c p24.1))).bind fun p25 =>
    (c.call 10 [v6, p25.1] p23.2).bind fun p26 =>
    (op p26.2 (.bin .neq (.c p23.1) (.c p26.1))).bind fun p27 =>
    (grd p27.1 false (op p26.2 (.mv (.c v5))) p26.2).bind fun p28 =>
    (grd p27.1 false (c.call 11 [p28.1] p26.2) p26.2).bind fun p29 =>
    (grd p27.1 false (op p26.2 (.mv (.c v6))) p26.2).bind fun p30 =>
    (grd p27.1 false (op p26.2 (.nck (.c p30.1))) p26.2).bind fun p31 =>
    (grd p27.1 false (op p26.2 (.fa [1, 3, 1, 1, 1, 1, 1] 6 (.c p31.1))) p26.2).bind fun p32 =>
    (grd p27.1 false (op p26.2 (.ld false 1 (.c p32.1))) p26.2).bind fun p33 =>
    (grd p27.1 false (op p26.2 (.eq true .bool (.c p29.1) (.c p33.1))) p26.2).bind fun p34 =>
    (op p26.2 (.pick (.c p27.1) (.c (.lit (.bool true))) (.c p34.1))).bind fun p35 =>
    (grd p35.1 false (op p26.2 (.mv (.c v5))) p26.2).bind fun p36 =>
    (grd p35.1 false (c.call 12 [p36.1] p26.2) p26.2).bind fun p37 =>
    (grd p35.1 false (op p26.2 (.mv (.c v6))) p26.2).bind fun p38 =>
    (grd p35.1 false (op p26.2 (.nck (.c p38.1))) p26.2).bind fun p39 =>
    (grd p35.1 false (op p26.2 (.fa [1, 3, 1, 1, 1, 1, 1] 3 (.c p39.1))) p26.2).bind fun p40 =>
    (grd p35.1 false (op p26.2 (.ld false 1 (.c p40.1))) p26.2).bind fun p41 =>
    (grd p35.1 false (op p26.2 (.bin .neq (.c p37.1) (.c p41.1))) p26.2).bind fun p42 =>
    (op p26.2 (.pick (.c p35.1) (.c (.lit (.bool true))) (.c p42.1))).bind fun p43 =>
    (grd p43.1 false (op p26.2 (.mv (.c v5))) p26.2).bind fun p44 =>
    if wnt p43.1 false = true then
      (c.call 14 [p44.1] p26.2).bind fun p45 =>
      (grd p43.1 false (op p45.2 (.mv (.c v6))) p45.2).bind fun p46 =>
      if wnt p43.1 false = true then
        (c.call 15 [p46.1] p45.2).bind fun p47 =>
        (grd p43.1 false (c.call 13 [p45.1, p47.1] p47.2) p47.2).bind fun p48 =>
        (grd p43.1 false (op p47.2 (.un .not (.c p48.1))) p47.2).bind fun p49 =>
        (op p47.2 (.pick (.c p43.1) (.c (.lit (.bool true))) (.c p49.1))).bind fun p50 =>
        if ((sm p25.1 (op p20.2 (.ld true 6 (.c p24.1))) && (sm p25.1 (op p23.2 (.ld true 6 (.c p24.1))) && (true && (true && (true && true))))) && true) = true then
        cnd p50.1
          (fin [.v (.lit (.bool false))] p47.2)
          ((op p47.2 (.nck (.c v6))).bind fun p75 =>
          (op p75.2 (.fa [1, 3, 1, 1, 1, 1, 1] 6 (.c p75.1))).bind fun p76 =>
          (op p76.2 (.ld false 1 (.c p76.1))).bind fun p77 =>
          (op p77.2 (.un .not (.c p77.1))).bind fun p78 =>
          cnd p78.1
            ((c.call 16 [v6] p78.2).bind fun p79 =>
            j3_2 c v1 v5 v6 v7 p79.1 p79.2)
            (j3_2 c v1 v5 v6 v7 (.lit (.int .i64 0)) p78.2))
        else none
      else
        (grd p43.1 false (c.call 13 [p45.1, und] p45.2) p45.2).bind fun p80 =>
        (grd p43.1 false (op p45.2 (.un .not (.c p80.1))) p45.2).bind fun p81 =>
        (op p45.2 (.pick (.c p43.1) (.c (.lit (.bool true))) (.c p81.1))).bind fun p82 =>
        if ((sm p25.1 (op p20.2 (.ld true 6 (.c p24.1))) && (sm p25.1 (op p23.2 (.ld true 6 (.c p24.1))) && (true && (true && (true && true))))) && true) = true then
        cnd p82.1
          (fin [.v (.lit (.bool false))] p45.2)
          ((op p45.2 (.nck (.c v6))).bind fun p83 =>
          (op p83.2 (.fa [1, 3, 1, 1, 1, 1, 1] 6 (.c p83.1))).bind fun p84 =>
          (op p84.2 (.ld false 1 (.c p84.1))).bind fun p85 =>
          (op p85.2 (.un .not (.c p85.1))).bind fun p86 =>
          cnd p86.1
            ((c.call 16 [v6] p86.2).bind fun p87 =>
            j3_2 c v1 v5 v6 v7 p87.1 p87.2)
            (j3_2 c v1 v5 v6 v7 (.lit (.int .i64 0)) p86.2))
        else none
    else
      (grd p43.1 false (op p26.2 (.mv (.c v6))) p26.2).bind fun p88 =>
      if wnt p43.1 false = true then
        (c.call 15 [p88.1] p26.2).bind fun p89 =>
        (grd p43.1 false (c.call 13 [und, p89.1] p89.2) p89.2).bind fun p90 =>
        (grd p43.1 false (op p89.2 (.un .not (.c p90.1))) p89.2).bind fun p91 =>
        (op p89.2 (.pick (.c p43.1) (.c (.lit (.bool true))) (.c p91.1))).bind fun p92 =>
        if ((sm p25.1 (op p20.2 (.ld true 6 (.c p24.1))) && (sm p25.1 (op p23.2 (.ld true 6 (.c p24.1))) && (true && (true && (true && true))))) && true) = true then
        cnd p92.1
          (fin [.v (.lit (.bool false))] p89.2)
          ((op p89.2 (.nck (.c v6))).bind fun p93 =>
          (op p93.2 (.fa [1, 3, 1, 1, 1, 1, 1] 6 (.c p93.1))).bind fun p94 =>
          (op p94.2 (.ld false 1 (.c p94.1))).bind fun p95 =>
          (op p95.2 (.un .not (.c p95.1))).bind fun p96 =>
          cnd p96.1
            ((c.call 16 [v6] p96.2).bind fun p97 =>
            j3_2 c v1 v5 v6 v7 p97.1 p97.2)
            (j3_2 c v1 v5 v6 v7 (.lit (.int .i64 0)) p96.2))
        else none
      else
        (grd p43.1 false (c.call 13 [und, und] p26.2) p26.2).bind fun p98 =>
        (grd p43.1 false (op p26.2 (.un .not (.c p98.1))) p26.2).bind fun p99 =>
        (op p26.2 (.pick (.c p43.1) (.c (.lit (.bool true))) (.c p99.1))).bind fun p100 =>
        if ((sm p25.1 (op p20.2 (.ld true 6 (.c p24.1))) && (sm p25.1 (op p23.2 (.ld true 6 (.c p24.1))) && (true && (true && (true && true))))) && true) = true then
        cnd p100.1
          (fin [.v (.lit (.bool false))] p26.2)
          ((op p26.2 (.nck (.c v6))).bind fun p101 =>
          (op p101.2 (.fa [1, 3, 1, 1, 1, 1, 1] 6 (.c p101.1))).bind fun p102 =>
          (op p102.2 (.ld false 1 (.c p102.1))).bind fun p103 =>
          (op p103.2 (.un .not (.c p103.1))).bind fun p104 =>
          cnd p104.1
            ((c.call 16 [v6] p104.2).bind fun p105 =>
            j3_2 c v1 v5 v6 v7 p105.1 p105.2)
            (j3_2 c v1 v5 v6 v7 (.lit (.int .i64 0)) p104.2))
        else none)
    ((c.call 6 [] p20.2).bind fun p106 =>
    fin [.v p106.1] p106.2) := loop_text (by kernel_rfl) (by kernel_rfl)
theorem e3 (c : Cx) (x0 x1 : D) (h : Hp) : bodyA c a3 [x0, x1] h =
  (c.call 5 [x1] h).bind fun p1 =>
  (op p1.2 (.un .not (.c p1.1))).bind fun p2 =>
  cnd p2.1
    ((c.call 6 [] p2.2).bind fun p3 =>
    fin [.v p3.1] p3.2)
    ((c.call 7 [x0] p2.2).bind fun p4 =>
    (op p4.2 (.eq false .ptr (.c p4.1) (.c (.lit (.pointer none))))).bind fun p5 =>
    (grd p5.1 false (op p5.2 (.mv (.c x0))) p5.2).bind fun p6 =>
    (grd p5.1 false (c.call 8 [p6.1] p6.2) p6.2).bind fun p7 =>
    (grd p5.1 false (op p7.2 (.un .not (.c p7.1))) p7.2).bind fun p8 =>
    (op p8.2 (.pick (.c p5.1) (.c (.lit (.bool true))) (.c p8.1))).bind fun p9 =>
    cnd p9.1
      ((op p9.2 (.eq false .ptr (.c p4.1) (.c (.lit (.pointer none))))).bind fun p10 =>
      (grd p10.1 true (op p10.2 (.mv (.c x0))) p10.2).bind fun p11 =>
      (grd p10.1 true (c.call 8 [p11.1] p11.2) p11.2).bind fun p12 =>
      (grd p10.1 true (op p12.2 (.un .not (.c p12.1))) p12.2).bind fun p13 =>
      (op p13.2 (.pick (.c p10.1) (.c p13.1) (.c (.lit (.bool false))))).bind fun p14 =>
      (grd p14.1 true (c.call 6 [] p14.2) p14.2).bind fun p15 =>
      (op p15.2 (.pick (.c p14.1) (.c p15.1) (.c (.lit (.bool false))))).bind fun p16 =>
      fin [.v p16.1] p16.2)
      ((op p9.2 (.build [1, 3, 1, 1, 1, 1, 1] [(.lit (.int .i64 0)), (.agg [1, 1, 1] [nilD, nilD, nilD]), nilD, (.lit (.int .i64 0)), (.lit (.int .i64 0)), (.lit (.int .i64 0)), (.lit (.bool false))] [(0, (.c x0))])).bind fun p17 =>
      (op p17.2 (.box true (.c p17.1))).bind fun p18 =>
      l3_1 c x1 p4.1 p18.1 (.lit (.int .i64 0)) p18.2)) := by kernel_rfl
/-! newsreel/newsreellaw11.DiskNil -/
theorem ok4 : a4.ok = true := by kernel_rfl
noncomputable def l4_1 (c : Cx) (v1 v3 v4 : D) (h : Hp) : Option (List D × Hp) := c.lp 26 (codeA [1, 1, 0, 1, 0] a4.body).bodyOf (blockK 0 (seqK (cpsA c.call c.lp (codeA [1, 1, 1] a4.body)) (finA a4))) ⟨[und, v1, und, v3, v4, und, und, und, und, und, und, und, und, und, und, und, und, und, und, und, und, und, und, und, und, und, und, und, und, und, und, und, und, und, und, und, und, und, und, und, und, und, und, und, und, und, und, und, und, und, und, und, und, und, und, und, und, und, und, und, und], h⟩
theorem l4_1_eq (c : Cx) (v1 v3 v4 : D) (h : Hp) : l4_1 c v1 v3 v4 h =
  (op h (.bin .lss (.c v4) (.c (.lit (.int .i64 2))))).bind fun p2 =>
  cnd p2.1
    ((op p2.2 (.ld true 6 (.c v1))).bind fun p3 =>
    (c.call 9 [v3, p3.1] p3.2).bind fun p4 =>
    (op p4.2 (.fa [1, 1, 1, 1, 1, 1] 1 (.c v1))).bind fun p5 =>
    (op p5.2 (.ld false 1 (.c p5.1))).bind fun p6 =>
    (c.call 17 [v3, p6.1] p6.2).bind fun p7 =>
    (op p7.2 (.ext (.c p7.1) 0)).bind fun p8 =>
    (op p8.2 (.ext (.c p7.1) 1)).bind fun p9 =>
    (op p9.2 (.fa [1, 1, 1, 1, 1, 1] 0 (.c v1))).bind fun p10 =>
    (op p10.2 (.ld false 1 (.c p10.1))).bind fun p11 =>
    (op p11.2 (.bin .geq (.c p11.1) (.c (.lit (.int .i64 0))))).bind fun p12 =>
    (grd p12.1 true (op p12.2 (.fa [1, 1, 1, 1, 1, 1] 0 (.c v1))) p12.2).bind fun p13 =>
    (grd p12.1 true (op p13.2 (.ld false 1 (.c p13.1))) p13.2).bind fun p14 =>
    (grd p12.1 true (op p14.2 (.bin .lss (.c p14.1) (.c (.lit (.int .i64 6))))) p14.2).bind fun p15 =>
    (op p15.2 (.pick (.c p12.1) (.c p15.1) (.c (.lit (.bool false))))).bind fun p16 =>
    (grd p16.1 true (op p16.2 (.mv (.c p4.1))) p16.2).bind fun p17 =>
    (grd p16.1 true (op p17.2 (.bin .neq (.c p17.1) (.c (.lit (.int .i64 10))))) p17.2).bind fun p18 =>
    (op p18.2 (.pick (.c p16.1) (.c p18.1) (.c (.lit (.bool false))))).bind fun p19 =>
    (grd p19.1 false (op p19.2 (.mv (.c p9.1))) p19.2).bind fun p20 =>
    (grd p19.1 false (op p20.2 (.bin .neq (.c p20.1) (.c (.lit (.int .i64 10))))) p20.2).bind fun p21 =>
    (op p21.2 (.pick (.c p19.1) (.c (.lit (.bool true))) (.c p21.1))).bind fun p22 =>
    (grd p22.1 false (op p22.2 (.mv (.c v3))) p22.2).bind fun p23 =>
    (grd p22.1 false (c.call 14 [p23.1] p23.2) p23.2).bind fun p24 =>
    (grd p22.1 false (op p24.2 (.len false (.c p24.1))) p24.2).bind fun p25 =>
    (grd p22.1 false (op p25.2 (.bin .neq (.c p25.1) (.c (.lit (.int .i64 0))))) p25.2).bind fun p26 =>
    (op p26.2 (.pick (.c p22.1) (.c (.lit (.bool true))) (.c p26.1))).bind fun p27 =>
    (grd p27.1 false (op p27.2 (.mv (.c v3))) p27.2).bind fun p28 =>
    (grd p27.1 false (c.call 20 [p28.1] p28.2) p28.2).bind fun p29 =>
    (grd p27.1 false (op p29.2 (.bin .neq (.c p29.1) (.c (.lit (.int .i64 0))))) p29.2).bind fun p30 =>
    (op p30.2 (.pick (.c p27.1) (.c (.lit (.bool true))) (.c p30.1))).bind fun p31 =>
    (grd p31.1 false (op p31.2 (.mv (.c v3))) p31.2).bind fun p32 =>
    (grd p31.1 false (c.call 12 [p32.1] p32.2) p32.2).bind fun p33 =>
    (grd p31.1 false (op p33.2 (.bin .neq (.c p33.1) (.c (.lit (.int .i64 0))))) p33.2).bind fun p34 =>
    (op p34.2 (.pick (.c p31.1) (.c (.lit (.bool true))) (.c p34.1))).bind fun p35 =>
    (grd p35.1 false (op p35.2 (.mv (.c v3))) p35.2).bind fun p36 =>
    (grd p35.1 false (c.call 11 [p36.1] p36.2) p36.2).bind fun p37 =>
    (op p37.2 (.pick (.c p35.1) (.c (.lit (.bool true))) (.c p37.1))).bind fun p38 =>
    cnd p38.1
      (fin [.v (.lit (.bool false))] p38.2)
      ((op p38.2 (.build [1, 1, 3, 1, 1, 1, 1, 1] [(.lit (.bool false)), (.lit (.int .i64 0)), (.agg [1, 1, 1] [nilD, nilD, nilD]), nilD, (.lit (.int .i64 0)), (.lit (.int .i64 0)), (.lit (.int .i64 0)), (.lit (.bool false))] [])).bind fun p39 =>
      (op p39.2 (.box true (.c p39.1))).bind fun p40 =>
      (op p40.2 (.bin .add (.c v4) (.c (.lit (.int .i64 1))))).bind fun p41 =>
      l4_1 c v1 p40.1 p41.1 p41.2))
    ((c.call 6 [] p2.2).bind fun p42 =>
    fin [.v p42.1] p42.2) := loop_text (by kernel_rfl) (by kernel_rfl)
theorem e4 (c : Cx) (x0 : D) (h : Hp) : bodyA c a4 [x0] h =
  (op h (.box false (.c x0))).bind fun p1 =>
  l4_1 c p1.1 (.lit (.pointer none)) (.lit (.int .i64 0)) p1.2 := by kernel_rfl
/-! newsreel/newsreelref11.Light -/
theorem ok5 : a5.ok = true := by kernel_rfl
noncomputable def l5_1 (c : Cx) (v0 v3 : D) (h : Hp) : Option (List D × Hp) := c.lp 9 (codeA [1, 1, 0, 1, 0] a5.body).bodyOf (blockK 0 (seqK (cpsA c.call c.lp (codeA [1, 1, 1] a5.body)) (finA a5))) ⟨[v0, und, und, v3, und, und, und, und, und, und, und, und, und, und, und, und, und, und, und, und, und, und, und, und, und, und, und, und, und, und, und, und, und, und, und, und, und, und, und, und, und, und, und, und, und, und, und, und, und, und, und, und, und, und, und], h⟩
theorem l5_1_eq (c : Cx) (v0 v3 : D) (h : Hp) : l5_1 c v0 v3 h =
  (op h (.len false (.c v0))).bind fun p3 =>
  (op p3.2 (.bin .lss (.c v3) (.c p3.1))).bind fun p4 =>
  cnd p4.1
    ((op p4.2 (.ia 6 (.c v0) (.c v3))).bind fun p5 =>
    (op p5.2 (.ld true 6 (.c p5.1))).bind fun p6 =>
    (op p6.2 (.box true (.c (.agg [1, 1, 1, 1, 1, 1] [(.lit (.int .i64 0)), (.lit (.string ⟨#[]⟩)), (.lit (.string ⟨#[]⟩)), (.lit (.int .i64 0)), nilD, nilD])))).bind fun p7 =>
    (op p7.2 (.st 6 (.c p7.1) (.c p6.1))).bind fun p8 =>
    (op p8.2 (.fa [1, 1, 1, 1, 1, 1] 1 (.c p7.1))).bind fun p9 =>
    (op p9.2 (.ld false 1 (.c p9.1))).bind fun p10 =>
    (op p10.2 (.len true (.c p10.1))).bind fun p11 =>
    (op p11.2 (.bin .gtr (.c p11.1) (.c (.lit (.int .i64 60))))).bind fun p12 =>
    (grd p12.1 false (op p12.2 (.fa [1, 1, 1, 1, 1, 1] 2 (.c p7.1))) p12.2).bind fun p13 =>
    (grd p12.1 false (op p13.2 (.ld false 1 (.c p13.1))) p13.2).bind fun p14 =>
    (grd p12.1 false (op p14.2 (.len true (.c p14.1))) p14.2).bind fun p15 =>
    (grd p12.1 false (op p15.2 (.bin .gtr (.c p15.1) (.c (.lit (.int .i64 60))))) p15.2).bind fun p16 =>
    (op p16.2 (.pick (.c p12.1) (.c (.lit (.bool true))) (.c p16.1))).bind fun p17 =>
    (grd p17.1 false (op p17.2 (.fa [1, 1, 1, 1, 1, 1] 4 (.c p7.1))) p17.2).bind fun p18 =>
    (grd p17.1 false (op p18.2 (.ld false 1 (.c p18.1))) p18.2).bind fun p19 =>
    (grd p17.1 false (op p19.2 (.len false (.c p19.1))) p19.2).bind fun p20 =>
    (grd p17.1 false (op p20.2 (.bin .gtr (.c p20.1) (.c (.lit (.int .i64 200))))) p20.2).bind fun p21 =>
    (op p21.2 (.pick (.c p17.1) (.c (.lit (.bool true))) (.c p21.1))).bind fun p22 =>
    (grd p22.1 false (op p22.2 (.fa [1, 1, 1, 1, 1, 1] 0 (.c p7.1))) p22.2).bind fun p23 =>
    (grd p22.1 false (op p23.2 (.ld false 1 (.c p23.1))) p23.2).bind fun p24 =>
    (grd p22.1 false (op p24.2 (.bin .eql (.c p24.1) (.c (.lit (.int .i64 1))))) p24.2).bind fun p25 =>
    (grd p22.1 false (op p25.2 (.mv (.c p25.1))) p25.2).bind fun p26 =>
    (grd p26.1 true (op p26.2 (.fa [1, 1, 1, 1, 1, 1] 3 (.c p7.1))) p26.2).bind fun p27 =>
    (grd p26.1 true (op p27.2 (.ld false 1 (.c p27.1))) p27.2).bind fun p28 =>
    (grd p26.1 true (op p28.2 (.bin .gtr (.c p28.1) (.c (.lit (.int .i64 2000))))) p28.2).bind fun p29 =>
    (grd p22.1 false (op p29.2 (.pick (.c p26.1) (.c p29.1) (.c (.lit (.bool false))))) p29.2).bind fun p30 =>
    (grd p22.1 false (op p30.2 (.mv (.c p30.1))) p30.2).bind fun p31 =>
    (grd p31.1 true (op p31.2 (.fa [1, 1, 1, 1, 1, 1] 3 (.c p7.1))) p31.2).bind fun p32 =>
    (grd p31.1 true (op p32.2 (.ld false 1 (.c p32.1))) p32.2).bind fun p33 =>
    (grd p31.1 true (op p33.2 (.bin .leq (.c p33.1) (.c (.lit (.int .i64 65536))))) p33.2).bind fun p34 =>
    (grd p22.1 false (op p34.2 (.pick (.c p31.1) (.c p34.1) (.c (.lit (.bool false))))) p34.2).bind fun p35 =>
    (op p35.2 (.pick (.c p22.1) (.c (.lit (.bool true))) (.c p35.1))).bind fun p36 =>
    (grd p36.1 false (op p36.2 (.fa [1, 1, 1, 1, 1, 1] 5 (.c p7.1))) p36.2).bind fun p37 =>
    (grd p36.1 false (op p37.2 (.ld false 1 (.c p37.1))) p37.2).bind fun p38 =>
    (grd p36.1 false (op p38.2 (.len false (.c p38.1))) p38.2).bind fun p39 =>
    (grd p36.1 false (op p39.2 (.bin .gtr (.c p39.1) (.c (.lit (.int .i64 200))))) p39.2).bind fun p40 =>
    (op p40.2 (.pick (.c p36.1) (.c (.lit (.bool true))) (.c p40.1))).bind fun p41 =>
    cnd p41.1
      (fin [.v (.lit (.bool false))] p41.2)
      ((op p41.2 (.bin .add (.c v3) (.c (.lit (.int .i64 1))))).bind fun p42 =>
      l5_1 c v0 p42.1 p42.2))
    (fin [.v (.lit (.bool true))] p4.2) := loop_text (by kernel_rfl) (by kernel_rfl)
theorem e5 (c : Cx) (x0 : D) (h : Hp) : bodyA c a5 [x0] h =
  (op h (.len false (.c x0))).bind fun p1 =>
  (op p1.2 (.bin .gtr (.c p1.1) (.c (.lit (.int .i64 40))))).bind fun p2 =>
  cnd p2.1
    (fin [.v (.lit (.bool false))] p2.2)
    (l5_1 c x0 (.lit (.int .i64 0)) p2.2) := by kernel_rfl
/-! newsreel/newsreellaw11.awake -/
theorem ok6 : a6.ok = true := by kernel_rfl
theorem e6 (c : Cx) (h : Hp) : bodyA c a6 [] h =
  (c.call 7 [(.lit (.int .i64 100))] h).bind fun p1 =>
  (op p1.2 (.eq false .ptr (.c p1.1) (.c (.lit (.pointer none))))).bind fun p2 =>
  cnd p2.1
    (fin [.v (.lit (.bool false))] p2.2)
    ((c.call 21 [p1.1, (.lit (.string ⟨#[97]⟩))] p2.2).bind fun p3 =>
    (op p3.2 (.bsl false 1 [(.lit (.int .u8 0)), (.lit (.int .u8 0))] [(0, (.c (.lit (.int .u8 1)))), (1, (.c (.lit (.int .u8 2))))])).bind fun p4 =>
    (c.call 22 [p1.1, (.lit (.string ⟨#[97]⟩)), (.lit (.int .i64 0)), p4.1] p4.2).bind fun p5 =>
    (c.call 23 [p1.1, (.lit (.string ⟨#[97]⟩))] p5.2).bind fun p6 =>
    (c.call 24 [p1.1] p6.2).bind fun p7 =>
    (op p7.2 (.bsl false 1 [(.lit (.int .u8 0))] [(0, (.c (.lit (.int .u8 9))))])).bind fun p8 =>
    (c.call 22 [p1.1, (.lit (.string ⟨#[97]⟩)), (.lit (.int .i64 1)), p8.1] p8.2).bind fun p9 =>
    (c.call 25 [p1.1, (.lit (.int .i64 1))] p9.2).bind fun p10 =>
    (op p10.2 (.bsl false 1 [(.lit (.int .u8 0))] [(0, (.c (.lit (.int .u8 7))))])).bind fun p11 =>
    (c.call 22 [p1.1, (.lit (.string ⟨#[97]⟩)), (.lit (.int .i64 0)), p11.1] p11.2).bind fun p12 =>
    (c.call 11 [p1.1] p12.2).bind fun p13 =>
    (c.call 26 [p1.1, nilD, (.lit (.int .i64 0))] p13.2).bind fun p14 =>
    (c.call 17 [p1.1, (.lit (.string ⟨#[97]⟩))] p14.2).bind fun p15 =>
    (op p15.2 (.ext (.c p15.1) 0)).bind fun p16 =>
    (op p16.2 (.ext (.c p15.1) 1)).bind fun p17 =>
    (op p17.2 (.bsl false 1 [(.lit (.int .u8 0)), (.lit (.int .u8 0))] [(0, (.c (.lit (.int .u8 1)))), (1, (.c (.lit (.int .u8 2))))])).bind fun p18 =>
    (c.call 22 [p1.1, (.lit (.string ⟨#[97]⟩)), (.lit (.int .i64 99)), p18.1] p18.2).bind fun p19 =>
    (op p19.2 (.bin .eql (.c p3.1) (.c (.lit (.int .i64 0))))).bind fun p20 =>
    (grd p20.1 true (op p20.2 (.mv (.c p5.1))) p20.2).bind fun p21 =>
    (grd p20.1 true (op p21.2 (.bin .eql (.c p21.1) (.c (.lit (.int .i64 0))))) p21.2).bind fun p22 =>
    (op p22.2 (.pick (.c p20.1) (.c p22.1) (.c (.lit (.bool false))))).bind fun p23 =>
    (grd p23.1 true (op p23.2 (.mv (.c p6.1))) p23.2).bind fun p24 =>
    (grd p23.1 true (op p24.2 (.bin .eql (.c p24.1) (.c (.lit (.int .i64 0))))) p24.2).bind fun p25 =>
    (op p25.2 (.pick (.c p23.1) (.c p25.1) (.c (.lit (.bool false))))).bind fun p26 =>
    (grd p26.1 true (op p26.2 (.mv (.c p7.1))) p26.2).bind fun p27 =>
    (grd p26.1 true (op p27.2 (.bin .eql (.c p27.1) (.c (.lit (.int .i64 0))))) p27.2).bind fun p28 =>
    (op p28.2 (.pick (.c p26.1) (.c p28.1) (.c (.lit (.bool false))))).bind fun p29 =>
    (grd p29.1 true (op p29.2 (.mv (.c p9.1))) p29.2).bind fun p30 =>
    (grd p29.1 true (op p30.2 (.bin .eql (.c p30.1) (.c (.lit (.int .i64 0))))) p30.2).bind fun p31 =>
    (op p31.2 (.pick (.c p29.1) (.c p31.1) (.c (.lit (.bool false))))).bind fun p32 =>
    (grd p32.1 true (op p32.2 (.mv (.c p12.1))) p32.2).bind fun p33 =>
    (grd p32.1 true (op p33.2 (.bin .eql (.c p33.1) (.c (.lit (.int .i64 9))))) p33.2).bind fun p34 =>
    (op p34.2 (.pick (.c p32.1) (.c p34.1) (.c (.lit (.bool false))))).bind fun p35 =>
    (grd p35.1 true (op p35.2 (.mv (.c p13.1))) p35.2).bind fun p36 =>
    (op p36.2 (.pick (.c p35.1) (.c p36.1) (.c (.lit (.bool false))))).bind fun p37 =>
    (grd p37.1 true (op p37.2 (.mv (.c p1.1))) p37.2).bind fun p38 =>
    (grd p37.1 true (c.call 11 [p38.1] p38.2) p38.2).bind fun p39 =>
    (grd p37.1 true (op p39.2 (.un .not (.c p39.1))) p39.2).bind fun p40 =>
    (op p40.2 (.pick (.c p37.1) (.c p40.1) (.c (.lit (.bool false))))).bind fun p41 =>
    (grd p41.1 true (op p41.2 (.mv (.c p17.1))) p41.2).bind fun p42 =>
    (grd p41.1 true (op p42.2 (.bin .eql (.c p42.1) (.c (.lit (.int .i64 0))))) p42.2).bind fun p43 =>
    (op p43.2 (.pick (.c p41.1) (.c p43.1) (.c (.lit (.bool false))))).bind fun p44 =>
    (grd p44.1 true (op p44.2 (.mv (.c p16.1))) p44.2).bind fun p45 =>
    (grd p44.1 true (op p45.2 (.bsl false 1 [(.lit (.int .u8 0)), (.lit (.int .u8 0))] [(0, (.c (.lit (.int .u8 1)))), (1, (.c (.lit (.int .u8 2))))])) p45.2).bind fun p46 =>
    (grd p44.1 true (c.call 19 [p45.1, p46.1] p46.2) p46.2).bind fun p47 =>
    (op p47.2 (.pick (.c p44.1) (.c p47.1) (.c (.lit (.bool false))))).bind fun p48 =>
    (grd p48.1 true (op p48.2 (.mv (.c p19.1))) p48.2).bind fun p49 =>
    (grd p48.1 true (op p49.2 (.bin .eql (.c p49.1) (.c (.lit (.int .i64 7))))) p49.2).bind fun p50 =>
    (op p50.2 (.pick (.c p48.1) (.c p50.1) (.c (.lit (.bool false))))).bind fun p51 =>
    (grd p51.1 true (op p51.2 (.mv (.c p1.1))) p51.2).bind fun p52 =>
    (grd p51.1 true (c.call 20 [p52.1] p52.2) p52.2).bind fun p53 =>
    (grd p51.1 true (op p53.2 (.bin .eql (.c p53.1) (.c (.lit (.int .i64 2))))) p53.2).bind fun p54 =>
    (op p54.2 (.pick (.c p51.1) (.c p54.1) (.c (.lit (.bool false))))).bind fun p55 =>
    (grd p55.1 true (op p55.2 (.mv (.c p1.1))) p55.2).bind fun p56 =>
    (grd p55.1 true (c.call 12 [p56.1] p56.2) p56.2).bind fun p57 =>
    (grd p55.1 true (op p57.2 (.bin .eql (.c p57.1) (.c (.lit (.int .i64 6))))) p57.2).bind fun p58 =>
    (op p58.2 (.pick (.c p55.1) (.c p58.1) (.c (.lit (.bool false))))).bind fun p59 =>
    (grd p59.1 true (op p59.2 (.mv (.c p1.1))) p59.2).bind fun p60 =>
    (grd p59.1 true (c.call 14 [p60.1] p60.2) p60.2).bind fun p61 =>
    (grd p59.1 true (op p61.2 (.len false (.c p61.1))) p61.2).bind fun p62 =>
    (grd p59.1 true (op p62.2 (.bin .eql (.c p62.1) (.c (.lit (.int .i64 1))))) p62.2).bind fun p63 =>
    (op p63.2 (.pick (.c p59.1) (.c p63.1) (.c (.lit (.bool false))))).bind fun p64 =>
    fin [.v p64.1] p64.2) := by kernel_rfl
/-! newsreel/disk.New -/
theorem ok7 : a7.ok = true := by kernel_rfl
theorem e7 (c : Cx) (x0 : D) (h : Hp) : bodyA c a7 [x0] h =
  (c.call 27 [x0] h).bind fun p1 =>
  (op p1.2 (.un .not (.c p1.1))).bind fun p2 =>
  cnd p2.1
    (fin [.v (.lit (.pointer none))] p2.2)
    ((op p2.2 (.build [1, 1, 3, 1, 1, 1, 1, 1] [(.lit (.bool false)), (.lit (.int .i64 0)), (.agg [1, 1, 1] [nilD, nilD, nilD]), nilD, (.lit (.int .i64 0)), (.lit (.int .i64 0)), (.lit (.int .i64 0)), (.lit (.bool false))] [(0, (.c (.lit (.bool true)))), (1, (.c x0))])).bind fun p3 =>
    (op p3.2 (.box true (.c p3.1))).bind fun p4 =>
    fin [.v p4.1] p4.2) := by kernel_rfl
/-! newsreel/newsreelref01.Size -/
theorem ok8 : a8.ok = true := by kernel_rfl
theorem e8 (c : Cx) (x0 : D) (h : Hp) : bodyA c a8 [x0] h =
  (op h (.bin .geq (.c x0) (.c (.lit (.int .i64 0))))).bind fun p1 =>
  (grd p1.1 true (op p1.2 (.mv (.c x0))) p1.2).bind fun p2 =>
  (grd p1.1 true (op p2.2 (.bin .leq (.c p2.1) (.c (.lit (.int .i64 1099511627776))))) p2.2).bind fun p3 =>
  (op p3.2 (.pick (.c p1.1) (.c p3.1) (.c (.lit (.bool false))))).bind fun p4 =>
  fin [.v p4.1] p4.2 := by kernel_rfl
/-! newsreel/newsreellaw11.Do -/
theorem ok9 : a9.ok = true := by kernel_rfl
theorem e9 (c : Cx) (x0 x1 : D) (h : Hp) : bodyA c a9 [x0, x1] h =
  (op h (.box false (.c x1))).bind fun p1 =>
  (op p1.2 (.fa [1, 1, 1, 1, 1, 1] 0 (.c p1.1))).bind fun p2 =>
  (op p2.2 (.ld false 1 (.c p2.1))).bind fun p3 =>
  (op p3.2 (.bin .eql (.c p3.1) (.c (.lit (.int .i64 0))))).bind fun p4 =>
  cnd p4.1
    ((op p4.2 (.fa [1, 1, 1, 1, 1, 1] 1 (.c p1.1))).bind fun p5 =>
    (op p5.2 (.ld false 1 (.c p5.1))).bind fun p6 =>
    (c.call 21 [x0, p6.1] p6.2).bind fun p7 =>
    fin [.v p7.1] p7.2)
    ((op p4.2 (.bin .eql (.c p3.1) (.c (.lit (.int .i64 1))))).bind fun p8 =>
    cnd p8.1
      ((op p8.2 (.fa [1, 1, 1, 1, 1, 1] 1 (.c p1.1))).bind fun p9 =>
      (op p9.2 (.ld false 1 (.c p9.1))).bind fun p10 =>
      (op p10.2 (.fa [1, 1, 1, 1, 1, 1] 3 (.c p1.1))).bind fun p11 =>
      (op p11.2 (.ld false 1 (.c p11.1))).bind fun p12 =>
      (op p12.2 (.fa [1, 1, 1, 1, 1, 1] 4 (.c p1.1))).bind fun p13 =>
      (op p13.2 (.ld false 1 (.c p13.1))).bind fun p14 =>
      (c.call 22 [x0, p10.1, p12.1, p14.1] p14.2).bind fun p15 =>
      fin [.v p15.1] p15.2)
      ((op p8.2 (.bin .eql (.c p3.1) (.c (.lit (.int .i64 2))))).bind fun p16 =>
      cnd p16.1
        ((op p16.2 (.fa [1, 1, 1, 1, 1, 1] 1 (.c p1.1))).bind fun p17 =>
        (op p17.2 (.ld false 1 (.c p17.1))).bind fun p18 =>
        (c.call 23 [x0, p18.1] p18.2).bind fun p19 =>
        fin [.v p19.1] p19.2)
        ((op p16.2 (.bin .eql (.c p3.1) (.c (.lit (.int .i64 3))))).bind fun p20 =>
        cnd p20.1
          ((c.call 24 [x0] p20.2).bind fun p21 =>
          fin [.v p21.1] p21.2)
          ((op p20.2 (.bin .eql (.c p3.1) (.c (.lit (.int .i64 4))))).bind fun p22 =>
          cnd p22.1
            ((op p22.2 (.fa [1, 1, 1, 1, 1, 1] 1 (.c p1.1))).bind fun p23 =>
            (op p23.2 (.ld false 1 (.c p23.1))).bind fun p24 =>
            (op p24.2 (.fa [1, 1, 1, 1, 1, 1] 2 (.c p1.1))).bind fun p25 =>
            (op p25.2 (.ld false 1 (.c p25.1))).bind fun p26 =>
            (c.call 28 [x0, p24.1, p26.1] p26.2).bind fun p27 =>
            fin [.v p27.1] p27.2)
            ((op p22.2 (.bin .eql (.c p3.1) (.c (.lit (.int .i64 5))))).bind fun p28 =>
            cnd p28.1
              ((op p28.2 (.fa [1, 1, 1, 1, 1, 1] 1 (.c p1.1))).bind fun p29 =>
              (op p29.2 (.ld false 1 (.c p29.1))).bind fun p30 =>
              (c.call 29 [x0, p30.1] p30.2).bind fun p31 =>
              fin [.v p31.1] p31.2)
              ((op p28.2 (.bin .eql (.c p3.1) (.c (.lit (.int .i64 6))))).bind fun p32 =>
              cnd p32.1
                ((op p32.2 (.fa [1, 1, 1, 1, 1, 1] 3 (.c p1.1))).bind fun p33 =>
                (op p33.2 (.ld false 1 (.c p33.1))).bind fun p34 =>
                (c.call 30 [x0, p34.1] p34.2).bind fun p35 =>
                fin [.v (.lit (.int .i64 0))] p35.2)
                ((op p32.2 (.bin .eql (.c p3.1) (.c (.lit (.int .i64 7))))).bind fun p36 =>
                cnd p36.1
                  ((op p36.2 (.fa [1, 1, 1, 1, 1, 1] 3 (.c p1.1))).bind fun p37 =>
                  (op p37.2 (.ld false 1 (.c p37.1))).bind fun p38 =>
                  (c.call 25 [x0, p38.1] p38.2).bind fun p39 =>
                  fin [.v (.lit (.int .i64 0))] p39.2)
                  ((op p36.2 (.bin .eql (.c p3.1) (.c (.lit (.int .i64 8))))).bind fun p40 =>
                  cnd p40.1
                    ((op p40.2 (.fa [1, 1, 1, 1, 1, 1] 5 (.c p1.1))).bind fun p41 =>
                    (op p41.2 (.ld false 1 (.c p41.1))).bind fun p42 =>
                    (op p42.2 (.fa [1, 1, 1, 1, 1, 1] 3 (.c p1.1))).bind fun p43 =>
                    (op p43.2 (.ld false 1 (.c p43.1))).bind fun p44 =>
                    (c.call 26 [x0, p42.1, p44.1] p44.2).bind fun p45 =>
                    fin [.v (.lit (.int .i64 0))] p45.2)
                    (fin [.v (.lit (.int .i64 0))] p40.2))))))))) := by kernel_rfl
/-! newsreel/newsreelref11.Do -/
theorem ok10 : a10.ok = true := by kernel_rfl
theorem e10 (c : Cx) (x0 x1 : D) (h : Hp) : bodyA c a10 [x0, x1] h =
  (op h (.box false (.c x1))).bind fun p1 =>
  (op p1.2 (.fa [1, 1, 1, 1, 1, 1] 0 (.c p1.1))).bind fun p2 =>
  (op p2.2 (.ld false 1 (.c p2.1))).bind fun p3 =>
  (op p3.2 (.bin .eql (.c p3.1) (.c (.lit (.int .i64 0))))).bind fun p4 =>
  cnd p4.1
    ((op p4.2 (.fa [1, 1, 1, 1, 1, 1] 1 (.c p1.1))).bind fun p5 =>
    (op p5.2 (.ld false 1 (.c p5.1))).bind fun p6 =>
    (op p6.2 (.build [1, 1, 1, 1] [(.lit (.int .i64 0)), (.lit (.string ⟨#[]⟩)), (.lit (.string ⟨#[]⟩)), (.lit (.int .i64 0))] [(0, (.c (.lit (.int .i64 1)))), (1, (.c p6.1))])).bind fun p7 =>
    (c.call 31 [x0, p7.1] p7.2).bind fun p8 =>
    fin [.v p8.1] p8.2)
    ((op p4.2 (.bin .eql (.c p3.1) (.c (.lit (.int .i64 1))))).bind fun p9 =>
    cnd p9.1
      ((op p9.2 (.fa [1, 1, 1, 1, 1, 1] 1 (.c p1.1))).bind fun p10 =>
      (op p10.2 (.ld false 1 (.c p10.1))).bind fun p11 =>
      (op p11.2 (.fa [1, 1, 1, 1, 1, 1] 3 (.c p1.1))).bind fun p12 =>
      (op p12.2 (.ld false 1 (.c p12.1))).bind fun p13 =>
      (op p13.2 (.fa [1, 1, 1, 1, 1, 1] 4 (.c p1.1))).bind fun p14 =>
      (op p14.2 (.ld false 1 (.c p14.1))).bind fun p15 =>
      (c.call 32 [x0, p11.1, p13.1, p15.1] p15.2).bind fun p16 =>
      fin [.v p16.1] p16.2)
      ((op p9.2 (.bin .eql (.c p3.1) (.c (.lit (.int .i64 2))))).bind fun p17 =>
      cnd p17.1
        ((op p17.2 (.fa [1, 1, 1, 1, 1, 1] 1 (.c p1.1))).bind fun p18 =>
        (op p18.2 (.ld false 1 (.c p18.1))).bind fun p19 =>
        (c.call 33 [x0, p19.1] p19.2).bind fun p20 =>
        fin [.v p20.1] p20.2)
        ((op p17.2 (.bin .eql (.c p3.1) (.c (.lit (.int .i64 3))))).bind fun p21 =>
        cnd p21.1
          ((c.call 34 [x0] p21.2).bind fun p22 =>
          fin [.v p22.1] p22.2)
          ((op p21.2 (.bin .eql (.c p3.1) (.c (.lit (.int .i64 4))))).bind fun p23 =>
          cnd p23.1
            ((op p23.2 (.fa [1, 1, 1, 1, 1, 1] 1 (.c p1.1))).bind fun p24 =>
            (op p24.2 (.ld false 1 (.c p24.1))).bind fun p25 =>
            (op p25.2 (.fa [1, 1, 1, 1, 1, 1] 2 (.c p1.1))).bind fun p26 =>
            (op p26.2 (.ld false 1 (.c p26.1))).bind fun p27 =>
            (op p27.2 (.build [1, 1, 1, 1] [(.lit (.int .i64 0)), (.lit (.string ⟨#[]⟩)), (.lit (.string ⟨#[]⟩)), (.lit (.int .i64 0))] [(0, (.c (.lit (.int .i64 2)))), (1, (.c p25.1)), (2, (.c p27.1))])).bind fun p28 =>
            (c.call 31 [x0, p28.1] p28.2).bind fun p29 =>
            fin [.v p29.1] p29.2)
            ((op p23.2 (.bin .eql (.c p3.1) (.c (.lit (.int .i64 5))))).bind fun p30 =>
            cnd p30.1
              ((op p30.2 (.fa [1, 1, 1, 1, 1, 1] 1 (.c p1.1))).bind fun p31 =>
              (op p31.2 (.ld false 1 (.c p31.1))).bind fun p32 =>
              (op p32.2 (.build [1, 1, 1, 1] [(.lit (.int .i64 0)), (.lit (.string ⟨#[]⟩)), (.lit (.string ⟨#[]⟩)), (.lit (.int .i64 0))] [(0, (.c (.lit (.int .i64 3)))), (1, (.c p32.1))])).bind fun p33 =>
              (c.call 31 [x0, p33.1] p33.2).bind fun p34 =>
              fin [.v p34.1] p34.2)
              ((op p30.2 (.bin .eql (.c p3.1) (.c (.lit (.int .i64 6))))).bind fun p35 =>
              cnd p35.1
                ((op p35.2 (.fa [1, 1, 1, 1, 1, 1] 3 (.c p1.1))).bind fun p36 =>
                (op p36.2 (.ld false 1 (.c p36.1))).bind fun p37 =>
                (op p37.2 (.mm true [(.c p37.1), (.c (.lit (.int .i64 0)))])).bind fun p38 =>
                (op p38.2 (.nck (.c x0))).bind fun p39 =>
                (op p39.2 (.fa [1, 3, 1, 1, 1, 1, 1] 4 (.c p39.1))).bind fun p40 =>
                (op p40.2 (.st 1 (.c p40.1) (.c p38.1))).bind fun p41 =>
                fin [.v (.lit (.int .i64 0))] p41.2)
                ((op p35.2 (.bin .eql (.c p3.1) (.c (.lit (.int .i64 7))))).bind fun p42 =>
                cnd p42.1
                  ((op p42.2 (.fa [1, 1, 1, 1, 1, 1] 3 (.c p1.1))).bind fun p43 =>
                  (op p43.2 (.ld false 1 (.c p43.1))).bind fun p44 =>
                  (op p44.2 (.mm true [(.c p44.1), (.c (.lit (.int .i64 0)))])).bind fun p45 =>
                  (op p45.2 (.nck (.c x0))).bind fun p46 =>
                  (op p46.2 (.fa [1, 3, 1, 1, 1, 1, 1] 5 (.c p46.1))).bind fun p47 =>
                  (op p47.2 (.st 1 (.c p47.1) (.c p45.1))).bind fun p48 =>
                  fin [.v (.lit (.int .i64 0))] p48.2)
                  ((op p42.2 (.bin .eql (.c p3.1) (.c (.lit (.int .i64 8))))).bind fun p49 =>
                  cnd p49.1
                    ((op p49.2 (.fa [1, 1, 1, 1, 1, 1] 5 (.c p1.1))).bind fun p50 =>
                    (op p50.2 (.ld false 1 (.c p50.1))).bind fun p51 =>
                    (op p51.2 (.fa [1, 1, 1, 1, 1, 1] 3 (.c p1.1))).bind fun p52 =>
                    (op p52.2 (.ld false 1 (.c p52.1))).bind fun p53 =>
                    (c.call 35 [x0, p51.1, p53.1] p53.2).bind fun p54 =>
                    fin [.v (.lit (.int .i64 0))] p54.2)
                    (fin [.v (.lit (.int .i64 0))] p49.2))))))))) := by kernel_rfl
/-! (*newsreel/disk.Disk).Down -/
theorem ok11 : a11.ok = true := by kernel_rfl
theorem e11 (c : Cx) (x0 : D) (h : Hp) : bodyA c a11 [x0] h =
  (c.call 36 [x0] h).bind fun p1 =>
  (grd p1.1 true (op p1.2 (.mv (.c x0))) p1.2).bind fun p2 =>
  (grd p1.1 true (op p2.2 (.nck (.c p2.1))) p2.2).bind fun p3 =>
  (grd p1.1 true (op p3.2 (.fa [1, 1, 3, 1, 1, 1, 1, 1] 7 (.c p3.1))) p3.2).bind fun p4 =>
  (grd p1.1 true (op p4.2 (.ld false 1 (.c p4.1))) p4.2).bind fun p5 =>
  (op p5.2 (.pick (.c p1.1) (.c p5.1) (.c (.lit (.bool false))))).bind fun p6 =>
  fin [.v p6.1] p6.2 := by kernel_rfl
/-! (*newsreel/disk.Disk).Ops -/
theorem ok12 : a12.ok = true := by kernel_rfl
theorem e12 (c : Cx) (x0 : D) (h : Hp) : bodyA c a12 [x0] h =
  (c.call 36 [x0] h).bind fun p1 =>
  (op p1.2 (.un .not (.c p1.1))).bind fun p2 =>
  cnd p2.1
    (fin [.v (.lit (.int .i64 0))] p2.2)
    ((op p2.2 (.nck (.c x0))).bind fun p3 =>
    (op p3.2 (.fa [1, 1, 3, 1, 1, 1, 1, 1] 4 (.c p3.1))).bind fun p4 =>
    (op p4.2 (.ld false 1 (.c p4.1))).bind fun p5 =>
    fin [.v p5.1] p5.2) := by kernel_rfl
/-! newsreel/newsreelref01.Texts -/
theorem ok13 : a13.ok = true := by kernel_rfl
noncomputable def l13_1 (c : Cx) (v0 v1 v5 : D) (h : Hp) : Option (List D × Hp) := c.lp 35 (codeA [1, 1, 0, 1, 0] a13.body).bodyOf (blockK 0 (seqK (cpsA c.call c.lp (codeA [1, 1, 1] a13.body)) (finA a13))) ⟨[v0, v1, und, und, und, v5, und, und, und, und, und, und, und, und, und, und, und, und, und, und, und, und, und, und, und, und], h⟩
theorem l13_1_eq (c : Cx) (v0 v1 v5 : D) (h : Hp) : l13_1 c v0 v1 v5 h =
  (op h (.len false (.c v0))).bind fun p4 =>
  (op p4.2 (.bin .lss (.c v5) (.c p4.1))).bind fun p5 =>
  cnd p5.1
    ((op p5.2 (.ia 1 (.c v0) (.c v5))).bind fun p6 =>
    (op p5.2 (.ld false 1 (.c p6.1))).bind fun p7 =>
    (op p5.2 (.ia 1 (.c v1) (.c v5))).bind fun p8 =>
    (op p5.2 (.ld false 1 (.c p8.1))).bind fun p9 =>
    (op p5.2 (.bin .neq (.c p7.1) (.c p9.1))).bind fun p10 =>
    cnd p10.1
      (fin [.v (.lit (.bool false))] p5.2)
      ((op p5.2 (.bin .add (.c v5) (.c (.lit (.int .i64 1))))).bind fun p11 =>
      l13_1 c v0 v1 p11.1 p11.2))
    (fin [.v (.lit (.bool true))] p5.2) := loop_text (by kernel_rfl) (by kernel_rfl)
theorem e13 (c : Cx) (x0 x1 : D) (h : Hp) : bodyA c a13 [x0, x1] h =
  (op h (.len false (.c x0))).bind fun p1 =>
  (op p1.2 (.len false (.c x1))).bind fun p2 =>
  (op p2.2 (.bin .neq (.c p1.1) (.c p2.1))).bind fun p3 =>
  cnd p3.1
    (fin [.v (.lit (.bool false))] p3.2)
    (l13_1 c x0 x1 (.lit (.int .i64 0)) p3.2) := by kernel_rfl
/-! (*newsreel/disk.Disk).List -/
theorem ok14 : a14.ok = true := by kernel_rfl
noncomputable def l14_1 (c : Cx) (v3 v13 v14 v15 : D) (h : Hp) : Option (List D × Hp) := c.lp 57352 (codeA [1, 1, 1, 0, 1, 0] a14.body).bodyOf (blockK 0 (seqK (cpsA c.call c.lp (codeA [1, 1, 1, 1] a14.body)) (finA a14))) ⟨[und, und, und, v3, und, und, und, und, und, und, und, und, und, v13, v14, v15, und, und, und, und, und, und, und, und, und, und], h⟩
theorem l14_1_eq (c : Cx) (v3 v13 v14 v15 : D) (h : Hp) : l14_1 c v3 v13 v14 v15 h =
  (op h (.bin .lss (.c v15) (.c v14))).bind fun p8 =>
  cnd p8.1
    ((op p8.2 (.ia 2 (.c v13) (.c v15))).bind fun p9 =>
    (op p9.2 (.ld true 2 (.c p9.1))).bind fun p10 =>
    (op p10.2 (.box true (.c (.agg [1, 1] [(.lit (.string ⟨#[]⟩)), (.lit (.int .i64 0))])))).bind fun p11 =>
    (op p11.2 (.st 2 (.c p11.1) (.c p10.1))).bind fun p12 =>
    (op p12.2 (.fa [1, 1] 0 (.c p11.1))).bind fun p13 =>
    (op p13.2 (.ld false 1 (.c p13.1))).bind fun p14 =>
    (op p14.2 (.bsl false 1 [(.lit (.string ⟨#[]⟩))] [(0, (.c p14.1))])).bind fun p15 =>
    (op p15.2 (.app 1 8796093022208 (.c v3) (.c p15.1))).bind fun p16 =>
    (op p16.2 (.bin .add (.c v15) (.c (.lit (.int .i64 1))))).bind fun p17 =>
    l14_1 c p16.1 v13 v14 p17.1 p17.2)
    (fin [.v v3] p8.2) := loop_text (by kernel_rfl) (by kernel_rfl)
theorem e14 (c : Cx) (x0 : D) (h : Hp) : bodyA c a14 [x0] h =
  (c.call 37 [x0, (.lit (.bool false))] h).bind fun p1 =>
  (op p1.2 (.bin .neq (.c p1.1) (.c (.lit (.int .i64 0))))).bind fun p2 =>
  cnd p2.1
    (fin [.v nilD] p2.2)
    ((op p2.2 (.nck (.c x0))).bind fun p3 =>
    (op p3.2 (.fa [1, 1, 3, 1, 1, 1, 1, 1] 2 (.c p3.1))).bind fun p4 =>
    (op p4.2 (.fa [1, 1, 1] 0 (.c p4.1))).bind fun p5 =>
    (op p5.2 (.ld false 1 (.c p5.1))).bind fun p6 =>
    (op p6.2 (.len false (.c p6.1))).bind fun p7 =>
    l14_1 c nilD p6.1 p7.1 (.lit (.int .i64 0)) p7.2) := by kernel_rfl
/-! (*newsreel/newsreelref11.Disk).List -/
theorem ok15 : a15.ok = true := by kernel_rfl
noncomputable def l15_1 (c : Cx) (v0 v3 v4 : D) (h : Hp) : Option (List D × Hp) := c.lp 25 (codeA [1, 1, 0, 1, 0] a15.body).bodyOf (blockK 0 (seqK (cpsA c.call c.lp (codeA [1, 1, 1] a15.body)) (finA a15))) ⟨[v0, und, und, v3, v4, und, und, und, und, und, und, und, und, und, und, und, und, und, und, und, und, und, und, und, und, und, und, und, und, und, und, und, und, und, und, und], h⟩
theorem l15_1_eq (c : Cx) (v0 v3 v4 : D) (h : Hp) : l15_1 c v0 v3 v4 h =
  (op h (.nck (.c v0))).bind fun p2 =>
  (op p2.2 (.fa [1, 3, 1, 1, 1, 1, 1] 1 (.c p2.1))).bind fun p3 =>
  (op p3.2 (.fa [1, 1, 1] 0 (.c p3.1))).bind fun p4 =>
  (op p4.2 (.ld false 1 (.c p4.1))).bind fun p5 =>
  (op p5.2 (.len false (.c p5.1))).bind fun p6 =>
  (op p6.2 (.bin .lss (.c v4) (.c p6.1))).bind fun p7 =>
  (grd p7.1 true (op p7.2 (.mv (.c v0))) p7.2).bind fun p8 =>
  (grd p7.1 true (op p8.2 (.nck (.c p8.1))) p8.2).bind fun p9 =>
  (grd p7.1 true (op p9.2 (.fa [1, 3, 1, 1, 1, 1, 1] 6 (.c p9.1))) p9.2).bind fun p10 =>
  (grd p7.1 true (op p10.2 (.ld false 1 (.c p10.1))) p10.2).bind fun p11 =>
  (grd p7.1 true (op p11.2 (.un .not (.c p11.1))) p11.2).bind fun p12 =>
  (op p12.2 (.pick (.c p7.1) (.c p12.1) (.c (.lit (.bool false))))).bind fun p13 =>
  cnd p13.1
    ((op p13.2 (.nck (.c v0))).bind fun p14 =>
    (op p14.2 (.fa [1, 3, 1, 1, 1, 1, 1] 1 (.c p14.1))).bind fun p15 =>
    (op p15.2 (.fa [1, 1, 1] 0 (.c p15.1))).bind fun p16 =>
    (op p16.2 (.ld false 1 (.c p16.1))).bind fun p17 =>
    (op p17.2 (.ia 2 (.c p17.1) (.c v4))).bind fun p18 =>
    (op p18.2 (.fa [1, 1] 0 (.c p18.1))).bind fun p19 =>
    (op p19.2 (.ld false 1 (.c p19.1))).bind fun p20 =>
    (op p20.2 (.bsl false 1 [(.lit (.string ⟨#[]⟩))] [(0, (.c p20.1))])).bind fun p21 =>
    (op p21.2 (.app 1 8796093022208 (.c v3) (.c p21.1))).bind fun p22 =>
    (op p22.2 (.bin .add (.c v4) (.c (.lit (.int .i64 1))))).bind fun p23 =>
    l15_1 c v0 p22.1 p23.1 p23.2)
    (fin [.v v3] p13.2) := loop_text (by kernel_rfl) (by kernel_rfl)
theorem e15 (c : Cx) (x0 : D) (h : Hp) : bodyA c a15 [x0] h =
  (op h (.bsl true 1 [] [])).bind fun p1 =>
  l15_1 c x0 p1.1 (.lit (.int .i64 0)) p1.2 := by kernel_rfl
/-! (*newsreel/newsreelref11.Disk).Used -/
theorem ok16 : a16.ok = true := by kernel_rfl
noncomputable def l16_1 (c : Cx) (v0 v3 v4 : D) (h : Hp) : Option (List D × Hp) := c.lp 25 (codeA [1, 1, 0, 1, 0] a16.body).bodyOf (blockK 0 (seqK (cpsA c.call c.lp (codeA [1, 1, 1] a16.body)) (finA a16))) ⟨[v0, und, und, v3, v4, und, und, und, und, und, und, und, und, und, und, und, und, und, und, und, und, und, und, und, und, und, und, und, und, und, und, und, und, und, und, und], h⟩
theorem l16_1_eq (c : Cx) (v0 v3 v4 : D) (h : Hp) : l16_1 c v0 v3 v4 h =
  (op h (.nck (.c v0))).bind fun p1 =>
  (op p1.2 (.fa [1, 3, 1, 1, 1, 1, 1] 1 (.c p1.1))).bind fun p2 =>
  (op p2.2 (.fa [1, 1, 1] 0 (.c p2.1))).bind fun p3 =>
  (op p3.2 (.ld false 1 (.c p3.1))).bind fun p4 =>
  (op p4.2 (.len false (.c p4.1))).bind fun p5 =>
  (op p5.2 (.bin .lss (.c v4) (.c p5.1))).bind fun p6 =>
  cnd p6.1
    ((op p6.2 (.nck (.c v0))).bind fun p7 =>
    (op p6.2 (.fa [1, 3, 1, 1, 1, 1, 1] 2 (.c p7.1))).bind fun p8 =>
    (op p6.2 (.ld false 1 (.c p8.1))).bind fun p9 =>
    (op p6.2 (.nck (.c v0))).bind fun p10 =>
    (op p6.2 (.fa [1, 3, 1, 1, 1, 1, 1] 1 (.c p10.1))).bind fun p11 =>
    (op p6.2 (.fa [1, 1, 1] 0 (.c p11.1))).bind fun p12 =>
    (op p6.2 (.ld false 1 (.c p12.1))).bind fun p13 =>
    (op p6.2 (.ia 2 (.c p13.1) (.c v4))).bind fun p14 =>
    (op p6.2 (.fa [1, 1] 1 (.c p14.1))).bind fun p15 =>
    (op p6.2 (.ld false 1 (.c p15.1))).bind fun p16 =>
    (op p6.2 (.bin .sub (.c p16.1) (.c (.lit (.int .i64 1))))).bind fun p17 =>
    (op p6.2 (.ia 3 (.c p9.1) (.c p17.1))).bind fun p18 =>
    (op p6.2 (.fa [1, 1, 1] 0 (.c p18.1))).bind fun p19 =>
    (op p6.2 (.ld false 1 (.c p19.1))).bind fun p20 =>
    (op p6.2 (.len false (.c p20.1))).bind fun p21 =>
    (op p6.2 (.bin .add (.c v3) (.c p21.1))).bind fun p22 =>
    (op p6.2 (.bin .add (.c v4) (.c (.lit (.int .i64 1))))).bind fun p23 =>
    l16_1 c v0 p22.1 p23.1 p23.2)
    (fin [.v v3] p6.2) := loop_text (by kernel_rfl) (by kernel_rfl)
theorem e16 (c : Cx) (x0 : D) (h : Hp) : bodyA c a16 [x0] h =
  l16_1 c x0 (.lit (.int .i64 0)) (.lit (.int .i64 0)) h := by kernel_rfl
/-! (*newsreel/disk.Disk).Read -/
theorem ok17 : a17.ok = true := by kernel_rfl
theorem e17 (c : Cx) (x0 x1 : D) (h : Hp) : bodyA c a17 [x0, x1] h =
  (c.call 37 [x0, (.lit (.bool false))] h).bind fun p1 =>
  (op p1.2 (.bin .neq (.c p1.1) (.c (.lit (.int .i64 0))))).bind fun p2 =>
  cnd p2.1
    (fin [.v nilD, .v p1.1] p2.2)
    ((c.call 38 [x0, x1] p2.2).bind fun p3 =>
    (op p3.2 (.ext (.c p3.1) 0)).bind fun p4 =>
    (op p4.2 (.ext (.c p3.1) 1)).bind fun p5 =>
    (op p5.2 (.bin .neq (.c p5.1) (.c (.lit (.int .i64 0))))).bind fun p6 =>
    cnd p6.1
      (fin [.v nilD, .v p5.1] p6.2)
      ((op p6.2 (.nck (.c x0))).bind fun p7 =>
      (op p7.2 (.fa [1, 1, 3, 1, 1, 1, 1, 1] 3 (.c p7.1))).bind fun p8 =>
      (op p8.2 (.ld false 1 (.c p8.1))).bind fun p9 =>
      (op p9.2 (.ia 3 (.c p9.1) (.c p4.1))).bind fun p10 =>
      (op p10.2 (.fa [1, 1, 1] 0 (.c p10.1))).bind fun p11 =>
      (op p11.2 (.ld false 1 (.c p11.1))).bind fun p12 =>
      (c.call 39 [p12.1] p12.2).bind fun p13 =>
      fin [.v p13.1, .v (.lit (.int .i64 0))] p13.2)) := by kernel_rfl
/-! (*newsreel/newsreelref11.Disk).Read -/
theorem ok18 : a18.ok = true := by kernel_rfl
theorem e18 (c : Cx) (x0 x1 : D) (h : Hp) : bodyA c a18 [x0, x1] h =
  (op h (.nck (.c x0))).bind fun p1 =>
  (op p1.2 (.fa [1, 3, 1, 1, 1, 1, 1] 6 (.c p1.1))).bind fun p2 =>
  (op p2.2 (.ld false 1 (.c p2.1))).bind fun p3 =>
  cnd p3.1
    (fin [.v nilD, .v (.lit (.int .i64 9))] p3.2)
    ((op p3.2 (.nck (.c x0))).bind fun p4 =>
    (op p4.2 (.fa [1, 3, 1, 1, 1, 1, 1] 1 (.c p4.1))).bind fun p5 =>
    (op p5.2 (.fa [1, 1, 1] 0 (.c p5.1))).bind fun p6 =>
    (op p6.2 (.ld false 1 (.c p6.1))).bind fun p7 =>
    (c.call 40 [p7.1, x1] p7.2).bind fun p8 =>
    (op p8.2 (.bin .lss (.c p8.1) (.c (.lit (.int .i64 0))))).bind fun p9 =>
    cnd p9.1
      (fin [.v nilD, .v (.lit (.int .i64 5))] p9.2)
      ((op p9.2 (.nck (.c x0))).bind fun p10 =>
      (op p9.2 (.fa [1, 3, 1, 1, 1, 1, 1] 2 (.c p10.1))).bind fun p11 =>
      (op p9.2 (.ld false 1 (.c p11.1))).bind fun p12 =>
      (op p9.2 (.nck (.c x0))).bind fun p13 =>
      (op p9.2 (.fa [1, 3, 1, 1, 1, 1, 1] 1 (.c p13.1))).bind fun p14 =>
      (op p9.2 (.fa [1, 1, 1] 0 (.c p14.1))).bind fun p15 =>
      (op p9.2 (.ld false 1 (.c p15.1))).bind fun p16 =>
      (op p9.2 (.ia 2 (.c p16.1) (.c p8.1))).bind fun p17 =>
      (op p9.2 (.fa [1, 1] 1 (.c p17.1))).bind fun p18 =>
      (op p9.2 (.ld false 1 (.c p18.1))).bind fun p19 =>
      (op p9.2 (.bin .sub (.c p19.1) (.c (.lit (.int .i64 1))))).bind fun p20 =>
      (op p9.2 (.ia 3 (.c p12.1) (.c p20.1))).bind fun p21 =>
      (op p9.2 (.fa [1, 1, 1] 0 (.c p21.1))).bind fun p22 =>
      (op p9.2 (.ld false 1 (.c p22.1))).bind fun p23 =>
      fin [.v p23.1, .v (.lit (.int .i64 0))] p9.2)) := by kernel_rfl
/-! newsreel/newsreelref01.Bytes -/
theorem ok19 : a19.ok = true := by kernel_rfl
theorem e19 (c : Cx) (x0 x1 : D) (h : Hp) : bodyA c a19 [x0, x1] h =
  (op h (.b2s (.c x0))).bind fun p1 =>
  (op p1.2 (.b2s (.c x1))).bind fun p2 =>
  (op p2.2 (.bin .eql (.c p1.1) (.c p2.1))).bind fun p3 =>
  fin [.v p3.1] p3.2 := by kernel_rfl
/-! (*newsreel/disk.Disk).Used -/
theorem ok20 : a20.ok = true := by kernel_rfl
noncomputable def l20_1 (c : Cx) (v0 v3 v13 v14 v15 : D) (h : Hp) : Option (List D × Hp) := c.lp 57353 (codeA [1, 1, 1, 0, 1, 0] a20.body).bodyOf (blockK 0 (seqK (cpsA c.call c.lp (codeA [1, 1, 1, 1] a20.body)) (finA a20))) ⟨[v0, und, und, v3, und, und, und, und, und, und, und, und, und, v13, v14, v15, und, und, und, und, und, und, und, und, und, und, und, und, und, und, und, und, und, und], h⟩
theorem l20_1_eq (c : Cx) (v0 v3 v13 v14 v15 : D) (h : Hp) : l20_1 c v0 v3 v13 v14 v15 h =
  (op h (.bin .lss (.c v15) (.c v14))).bind fun p8 =>
  cnd p8.1
    ((op p8.2 (.ia 2 (.c v13) (.c v15))).bind fun p9 =>
    (op p9.2 (.ld true 2 (.c p9.1))).bind fun p10 =>
    (op p10.2 (.box true (.c (.agg [1, 1] [(.lit (.string ⟨#[]⟩)), (.lit (.int .i64 0))])))).bind fun p11 =>
    (op p11.2 (.st 2 (.c p11.1) (.c p10.1))).bind fun p12 =>
    (op p12.2 (.nck (.c v0))).bind fun p13 =>
    (op p12.2 (.fa [1, 1, 3, 1, 1, 1, 1, 1] 3 (.c p13.1))).bind fun p14 =>
    (op p12.2 (.ld false 1 (.c p14.1))).bind fun p15 =>
    (op p12.2 (.fa [1, 1] 1 (.c p11.1))).bind fun p16 =>
    (op p12.2 (.ld false 1 (.c p16.1))).bind fun p17 =>
    (op p12.2 (.bin .sub (.c p17.1) (.c (.lit (.int .i64 1))))).bind fun p18 =>
    (op p12.2 (.ia 3 (.c p15.1) (.c p18.1))).bind fun p19 =>
    (op p12.2 (.fa [1, 1, 1] 0 (.c p19.1))).bind fun p20 =>
    (op p12.2 (.ld false 1 (.c p20.1))).bind fun p21 =>
    (op p12.2 (.len false (.c p21.1))).bind fun p22 =>
    (op p12.2 (.bin .add (.c v3) (.c p22.1))).bind fun p23 =>
    (op p12.2 (.bin .add (.c v15) (.c (.lit (.int .i64 1))))).bind fun p24 =>
    l20_1 c v0 p23.1 v13 v14 p24.1 p24.2)
    (fin [.v v3] p8.2) := loop_text (by kernel_rfl) (by kernel_rfl)
theorem e20 (c : Cx) (x0 : D) (h : Hp) : bodyA c a20 [x0] h =
  (c.call 37 [x0, (.lit (.bool false))] h).bind fun p1 =>
  (op p1.2 (.bin .neq (.c p1.1) (.c (.lit (.int .i64 0))))).bind fun p2 =>
  cnd p2.1
    (fin [.v (.lit (.int .i64 0))] p2.2)
    ((op p2.2 (.nck (.c x0))).bind fun p3 =>
    (op p3.2 (.fa [1, 1, 3, 1, 1, 1, 1, 1] 2 (.c p3.1))).bind fun p4 =>
    (op p4.2 (.fa [1, 1, 1] 0 (.c p4.1))).bind fun p5 =>
    (op p5.2 (.ld false 1 (.c p5.1))).bind fun p6 =>
    (op p6.2 (.len false (.c p6.1))).bind fun p7 =>
    l20_1 c x0 (.lit (.int .i64 0)) p6.1 p7.1 (.lit (.int .i64 0)) p7.2) := by kernel_rfl
/-! (*newsreel/disk.Disk).Create -/
theorem ok21 : a21.ok = true := by kernel_rfl
noncomputable def j21_1 (c : Cx) (v0 v1 v5 : D) (h : Hp) : Option (List D × Hp) := cpsA c.call c.lp (codeA [1, 1, 1] a21.body) ⟨[v0, v1, und, und, und, v5, und, und, und, und, und, und, und, und, und, und, und, und, und, und, und, und, und, und, und, und, und, und, und, und, und, und, und], h⟩ (finA a21)
theorem j21_1_eq (c : Cx) (v0 v1 v5 : D) (h : Hp) : j21_1 c v0 v1 v5 h =
  (op h (.build [1, 1, 1, 1] [(.lit (.int .i64 0)), (.lit (.string ⟨#[]⟩)), (.lit (.string ⟨#[]⟩)), (.lit (.int .i64 0))] [(0, (.c (.lit (.int .i64 1)))), (1, (.c v1)), (3, (.c v5))])).bind fun p1 =>
  (c.call 41 [v0, p1.1] p1.2).bind fun p2 =>
  (op p2.2 (.bin .eql (.c p2.1) (.c (.lit (.int .i64 0))))).bind fun p3 =>
  cnd p3.1
    ((op p3.2 (.nck (.c v0))).bind fun p4 =>
    (op p4.2 (.fa [1, 1, 3, 1, 1, 1, 1, 1] 3 (.c p4.1))).bind fun p5 =>
    (op p5.2 (.ld false 1 (.c p5.1))).bind fun p6 =>
    (op p6.2 (.build [1, 1, 1] [nilD, nilD, nilD] [])).bind fun p7 =>
    (op p7.2 (.bsl false 3 [(.agg [1, 1, 1] [nilD, nilD, nilD])] [(0, (.c p7.1))])).bind fun p8 =>
    (op p8.2 (.app 3 1954687338268 (.c p6.1) (.c p8.1))).bind fun p9 =>
    (op p9.2 (.nck (.c v0))).bind fun p10 =>
    (op p10.2 (.fa [1, 1, 3, 1, 1, 1, 1, 1] 3 (.c p10.1))).bind fun p11 =>
    (op p11.2 (.st 1 (.c p11.1) (.c p9.1))).bind fun p12 =>
    fin [.v p2.1] p12.2)
    (fin [.v p2.1] p3.2) := by kernel_rfl
theorem e21 (c : Cx) (x0 x1 : D) (h : Hp) : bodyA c a21 [x0, x1] h =
  (c.call 36 [x0] h).bind fun p13 =>
  cnd p13.1
    ((op p13.2 (.nck (.c x0))).bind fun p14 =>
    (op p14.2 (.fa [1, 1, 3, 1, 1, 1, 1, 1] 3 (.c p14.1))).bind fun p15 =>
    (op p15.2 (.ld false 1 (.c p15.1))).bind fun p16 =>
    (op p16.2 (.len false (.c p16.1))).bind fun p17 =>
    (op p17.2 (.bin .add (.c p17.1) (.c (.lit (.int .i64 1))))).bind fun p18 =>
    j21_1 c x0 x1 p18.1 p18.2)
    (j21_1 c x0 x1 (.lit (.int .i64 1)) p13.2) := by kernel_rfl
/-! (*newsreel/disk.Disk).Write -/
theorem ok22 : a22.ok = true := by kernel_rfl
theorem e22 (c : Cx) (x0 x1 x2 x3 : D) (h : Hp) : bodyA c a22 [x0, x1, x2, x3] h =
  (c.call 37 [x0, (.lit (.bool true))] h).bind fun p1 =>
  (op p1.2 (.bin .neq (.c p1.1) (.c (.lit (.int .i64 0))))).bind fun p2 =>
  cnd p2.1
    (fin [.v p1.1] p2.2)
    ((c.call 38 [x0, x1] p2.2).bind fun p3 =>
    (op p3.2 (.ext (.c p3.1) 0)).bind fun p4 =>
    (op p4.2 (.ext (.c p3.1) 1)).bind fun p5 =>
    (op p5.2 (.bin .neq (.c p5.1) (.c (.lit (.int .i64 0))))).bind fun p6 =>
    cnd p6.1
      (fin [.v p5.1] p6.2)
      ((c.call 42 [x2, x3] p6.2).bind fun p7 =>
      (op p7.2 (.ext (.c p7.1) 0)).bind fun p8 =>
      (op p8.2 (.ext (.c p7.1) 1)).bind fun p9 =>
      (op p9.2 (.bin .neq (.c p9.1) (.c (.lit (.int .i64 0))))).bind fun p10 =>
      cnd p10.1
        (fin [.v p9.1] p10.2)
        ((op p10.2 (.nck (.c x0))).bind fun p11 =>
        (op p11.2 (.fa [1, 1, 3, 1, 1, 1, 1, 1] 3 (.c p11.1))).bind fun p12 =>
        (op p12.2 (.ld false 1 (.c p12.1))).bind fun p13 =>
        (op p13.2 (.ia 3 (.c p13.1) (.c p4.1))).bind fun p14 =>
        (op p14.2 (.fa [1, 1, 1] 0 (.c p14.1))).bind fun p15 =>
        (op p15.2 (.ld false 1 (.c p15.1))).bind fun p16 =>
        (c.call 43 [p16.1, p8.1] p16.2).bind fun p17 =>
        (op p17.2 (.nck (.c x0))).bind fun p18 =>
        (op p17.2 (.fa [1, 1, 3, 1, 1, 1, 1, 1] 1 (.c p18.1))).bind fun p19 =>
        (op p17.2 (.ld false 1 (.c p19.1))).bind fun p20 =>
        (c.call 20 [x0] p17.2).bind fun p21 =>
        (op p21.2 (.bin .sub (.c p20.1) (.c p21.1))).bind fun p22 =>
        (op p21.2 (.bin .gtr (.c p17.1) (.c p22.1))).bind fun p23 =>
        if ((sm p20.1 (op p17.2 (.ld false 1 (.c p19.1))) && (sm p20.1 (op p21.2 (.ld false 1 (.c p19.1))) && true)) && true) = true then
        cnd p23.1
          (fin [.v (.lit (.int .i64 7))] p21.2)
          ((c.call 44 [x0] p21.2).bind fun p24 =>
          (op p24.2 (.bin .neq (.c p24.1) (.c (.lit (.int .i64 0))))).bind fun p25 =>
          cnd p25.1
            (fin [.v p24.1] p25.2)
            ((op p25.2 (.nck (.c x0))).bind fun p26 =>
            (op p26.2 (.fa [1, 1, 3, 1, 1, 1, 1, 1] 3 (.c p26.1))).bind fun p27 =>
            (op p27.2 (.ld false 1 (.c p27.1))).bind fun p28 =>
            (op p28.2 (.ia 3 (.c p28.1) (.c p4.1))).bind fun p29 =>
            (op p29.2 (.ld true 3 (.c p29.1))).bind fun p30 =>
            (op p30.2 (.box true (.c (.agg [1, 1, 1] [nilD, nilD, nilD])))).bind fun p31 =>
            (op p31.2 (.st 3 (.c p31.1) (.c p30.1))).bind fun p32 =>
            (op p32.2 (.nck (.c x0))).bind fun p33 =>
            (op p32.2 (.fa [1, 1, 3, 1, 1, 1, 1, 1] 3 (.c p33.1))).bind fun p34 =>
            (op p32.2 (.ld false 1 (.c p34.1))).bind fun p35 =>
            (op p32.2 (.fa [1, 1, 1] 0 (.c p31.1))).bind fun p36 =>
            (op p32.2 (.ld false 1 (.c p36.1))).bind fun p37 =>
            (c.call 45 [p37.1, p8.1] p32.2).bind fun p38 =>
            (op p38.2 (.fa [1, 1, 1] 1 (.c p31.1))).bind fun p39 =>
            (op p38.2 (.ld false 1 (.c p39.1))).bind fun p40 =>
            (op p38.2 (.fa [1, 1, 1] 2 (.c p31.1))).bind fun p41 =>
            (op p38.2 (.ld false 1 (.c p41.1))).bind fun p42 =>
            (op p38.2 (.fa [1, 1, 1] 2 (.c p31.1))).bind fun p43 =>
            (op p38.2 (.ld false 1 (.c p43.1))).bind fun p44 =>
            (op p38.2 (.len false (.c p44.1))).bind fun p45 =>
            (op p38.2 (.fa [1, 1, 1] 2 (.c p31.1))).bind fun p46 =>
            (op p38.2 (.ld false 1 (.c p46.1))).bind fun p47 =>
            (op p38.2 (.len false (.c p47.1))).bind fun p48 =>
            (op p38.2 (.slc 2 (.c p42.1) none (some (.c p45.1)) (some (.c p48.1)))).bind fun p49 =>
            (op p38.2 (.app 2 4398046511104 (.c p49.1) (.c p8.1))).bind fun p50 =>
            (op p50.2 (.build [1, 1, 1] [nilD, nilD, nilD] [(0, (.c p38.1)), (1, (.c p40.1)), (2, (.c p50.1))])).bind fun p51 =>
            (op p50.2 (.ia 3 (.c p35.1) (.c p4.1))).bind fun p52 =>
            (op p50.2 (.st 3 (.c p52.1) (.c p51.1))).bind fun p53 =>
            if ((sm p49.1 (op p32.2 (.slc 2 (.c p42.1) none (some (.c p45.1)) (some (.c p48.1)))) && (sm p49.1 (op p38.2 (.slc 2 (.c p42.1) none (some (.c p45.1)) (some (.c p48.1)))) && (true && (true && true)))) && ((sm p47.1 (op p32.2 (.ld false 1 (.c p46.1))) && (sm p47.1 (op p38.2 (.ld false 1 (.c p46.1))) && (true && (true && true)))) && ((sm p44.1 (op p32.2 (.ld false 1 (.c p43.1))) && (sm p44.1 (op p38.2 (.ld false 1 (.c p43.1))) && (true && (true && true)))) && ((sm p42.1 (op p32.2 (.ld false 1 (.c p41.1))) && (sm p42.1 (op p38.2 (.ld false 1 (.c p41.1))) && (true && (true && true)))) && ((sm p40.1 (op p32.2 (.ld false 1 (.c p39.1))) && (sm p40.1 (op p38.2 (.ld false 1 (.c p39.1))) && (sm p40.1 (op p50.2 (.ld false 1 (.c p39.1))) && (true && true)))) && ((sm p35.1 (op p32.2 (.ld false 1 (.c p34.1))) && (sm p35.1 (op p38.2 (.ld false 1 (.c p34.1))) && (sm p35.1 (op p50.2 (.ld false 1 (.c p34.1))) && (true && true)))) && true)))))) = true then
            fin [.v (.lit (.int .i64 0))] p53.2
            else none))
        else none))) := by kernel_rfl
/-! (*newsreel/disk.Disk).Sync -/
theorem ok23 : a23.ok = true := by kernel_rfl
theorem e23 (c : Cx) (x0 x1 : D) (h : Hp) : bodyA c a23 [x0, x1] h =
  (c.call 37 [x0, (.lit (.bool true))] h).bind fun p1 =>
  (op p1.2 (.bin .neq (.c p1.1) (.c (.lit (.int .i64 0))))).bind fun p2 =>
  cnd p2.1
    (fin [.v p1.1] p2.2)
    ((c.call 38 [x0, x1] p2.2).bind fun p3 =>
    (op p3.2 (.ext (.c p3.1) 0)).bind fun p4 =>
    (op p4.2 (.ext (.c p3.1) 1)).bind fun p5 =>
    (op p5.2 (.bin .neq (.c p5.1) (.c (.lit (.int .i64 0))))).bind fun p6 =>
    cnd p6.1
      (fin [.v p5.1] p6.2)
      ((c.call 44 [x0] p6.2).bind fun p7 =>
      (op p7.2 (.bin .neq (.c p7.1) (.c (.lit (.int .i64 0))))).bind fun p8 =>
      cnd p8.1
        (fin [.v p7.1] p8.2)
        ((op p8.2 (.nck (.c x0))).bind fun p9 =>
        (op p8.2 (.fa [1, 1, 3, 1, 1, 1, 1, 1] 3 (.c p9.1))).bind fun p10 =>
        (op p8.2 (.ld false 1 (.c p10.1))).bind fun p11 =>
        (op p8.2 (.nck (.c x0))).bind fun p12 =>
        (op p8.2 (.fa [1, 1, 3, 1, 1, 1, 1, 1] 3 (.c p12.1))).bind fun p13 =>
        (op p8.2 (.ld false 1 (.c p13.1))).bind fun p14 =>
        (op p8.2 (.ia 3 (.c p14.1) (.c p4.1))).bind fun p15 =>
        (op p8.2 (.ld true 3 (.c p15.1))).bind fun p16 =>
        (c.call 46 [p16.1] p8.2).bind fun p17 =>
        (op p17.2 (.ia 3 (.c p11.1) (.c p4.1))).bind fun p18 =>
        (op p17.2 (.st 3 (.c p18.1) (.c p17.1))).bind fun p19 =>
        if ((sm p11.1 (op p8.2 (.ld false 1 (.c p10.1))) && (sm p11.1 (op p17.2 (.ld false 1 (.c p10.1))) && (true && true))) && true) = true then
        fin [.v (.lit (.int .i64 0))] p19.2
        else none))) := by kernel_rfl
/-! (*newsreel/disk.Disk).SyncDir -/
theorem ok24 : a24.ok = true := by kernel_rfl
theorem e24 (c : Cx) (x0 : D) (h : Hp) : bodyA c a24 [x0] h =
  (c.call 37 [x0, (.lit (.bool true))] h).bind fun p1 =>
  (op p1.2 (.bin .neq (.c p1.1) (.c (.lit (.int .i64 0))))).bind fun p2 =>
  cnd p2.1
    (fin [.v p1.1] p2.2)
    ((c.call 44 [x0] p2.2).bind fun p3 =>
    (op p3.2 (.bin .neq (.c p3.1) (.c (.lit (.int .i64 0))))).bind fun p4 =>
    cnd p4.1
      (fin [.v p3.1] p4.2)
      ((op p4.2 (.nck (.c x0))).bind fun p5 =>
      (op p5.2 (.fa [1, 1, 3, 1, 1, 1, 1, 1] 2 (.c p5.1))).bind fun p6 =>
      (op p6.2 (.ld true 3 (.c p6.1))).bind fun p7 =>
      (c.call 47 [p7.1] p7.2).bind fun p8 =>
      (op p8.2 (.nck (.c x0))).bind fun p9 =>
      (op p9.2 (.fa [1, 1, 3, 1, 1, 1, 1, 1] 2 (.c p9.1))).bind fun p10 =>
      (op p10.2 (.st 3 (.c p10.1) (.c p8.1))).bind fun p11 =>
      fin [.v (.lit (.int .i64 0))] p11.2)) := by kernel_rfl
/-! (*newsreel/disk.Disk).Stop -/
theorem ok25 : a25.ok = true := by kernel_rfl
theorem e25 (c : Cx) (x0 x1 : D) (h : Hp) : bodyA c a25 [x0, x1] h =
  (c.call 36 [x0] h).bind fun p1 =>
  cnd p1.1
    ((op p1.2 (.mm true [(.c x1), (.c (.lit (.int .i64 0)))])).bind fun p2 =>
    (op p2.2 (.nck (.c x0))).bind fun p3 =>
    (op p3.2 (.fa [1, 1, 3, 1, 1, 1, 1, 1] 6 (.c p3.1))).bind fun p4 =>
    (op p4.2 (.st 1 (.c p4.1) (.c p2.1))).bind fun p5 =>
    fin [] p5.2)
    (fin [] p1.2) := by kernel_rfl
/-! (*newsreel/disk.Disk).Reboot -/
theorem ok26 : a26.ok = true := by kernel_rfl
noncomputable def l26_1 (c : Cx) (v0 v1 v6 v34 v35 v36 : D) (h : Hp) : Option (List D × Hp) := c.lp 120259084355 (codeA [1, 1, 1, 0, 1, 0] a26.body).bodyOf (blockK 0 (seqK (cpsA c.call c.lp (codeA [1, 1, 1, 1] a26.body)) (finA a26))) ⟨[v0, v1, und, und, und, und, v6, und, und, und, und, und, und, und, und, und, und, und, und, und, und, und, und, und, und, und, und, und, und, und, und, und, und, und, v34, v35, v36, und, und, und, und, und, und, und, und, und, und, und, und, und, und, und, und, und, und, und, und, und, und, und, und, und, und, und, und, und, und, und, und, und, und, und, und, und, und, und, und, und, und, und, und, und, und, und, und, und, und, und, und, und, und, und, und, und, und, und, und, und, und, und, und], h⟩
noncomputable def l26_2 (c : Cx) (v0 v1 v6 v50 v51 : D) (h : Hp) : Option (List D × Hp) := c.lp 3377699720527939 (codeA [1, 1, 1, 1, 0, 1, 0] a26.body).bodyOf (blockK 2 (seqK (cpsA c.call c.lp (codeA [1, 1, 1, 1, 1] a26.body)) (finA a26))) ⟨[v0, v1, und, und, und, und, v6, und, und, und, und, und, und, und, und, und, und, und, und, und, und, und, und, und, und, und, und, und, und, und, und, und, und, und, und, und, und, und, und, und, und, und, und, und, und, und, und, und, und, und, v50, v51, und, und, und, und, und, und, und, und, und, und, und, und, und, und, und, und, und, und, und, und, und, und, und, und, und, und, und, und, und, und, und, und, und, und, und, und, und, und, und, und, und, und, und, und, und, und, und, und, und], h⟩
theorem l26_2_eq (c : Cx) (v0 v1 v6 v50 v51 : D) (h : Hp) : l26_2 c v0 v1 v6 v50 v51 h =
  (op h (.bin .lss (.c v51) (.c v50))).bind fun p35 =>
  cnd p35.1
    ((op p35.2 (.ia 1 (.c v6) (.c v51))).bind fun p36 =>
    (op p36.2 (.ld false 1 (.c p36.1))).bind fun p37 =>
    (op p37.2 (.un .not (.c p37.1))).bind fun p38 =>
    cnd p38.1
      ((op p38.2 (.nck (.c v0))).bind fun p39 =>
      (op p39.2 (.fa [1, 1, 3, 1, 1, 1, 1, 1] 3 (.c p39.1))).bind fun p40 =>
      (op p40.2 (.ld false 1 (.c p40.1))).bind fun p41 =>
      (op p41.2 (.build [1, 1, 1] [nilD, nilD, nilD] [])).bind fun p42 =>
      (op p42.2 (.ia 3 (.c p41.1) (.c v51))).bind fun p43 =>
      (op p43.2 (.st 3 (.c p43.1) (.c p42.1))).bind fun p44 =>
      (op p44.2 (.bin .add (.c v51) (.c (.lit (.int .i64 1))))).bind fun p45 =>
      l26_2 c v0 v1 v6 v50 p45.1 p45.2)
      ((op p38.2 (.nck (.c v0))).bind fun p46 =>
      (op p46.2 (.fa [1, 1, 3, 1, 1, 1, 1, 1] 3 (.c p46.1))).bind fun p47 =>
      (op p47.2 (.ld false 1 (.c p47.1))).bind fun p48 =>
      (op p48.2 (.ia 3 (.c p48.1) (.c v51))).bind fun p49 =>
      (op p49.2 (.ld true 3 (.c p49.1))).bind fun p50 =>
      (c.call 49 [p50.1, v1] p50.2).bind fun p51 =>
      (op p51.2 (.ext (.c p51.1) 0)).bind fun p52 =>
      (op p52.2 (.ext (.c p51.1) 1)).bind fun p53 =>
      (op p53.2 (.box true (.c (.agg [1, 1, 1] [nilD, nilD, nilD])))).bind fun p54 =>
      (op p54.2 (.st 3 (.c p54.1) (.c p52.1))).bind fun p55 =>
      (op p55.2 (.len false (.c v1))).bind fun p56 =>
      (op p56.2 (.mm false [(.c p53.1), (.c p56.1)])).bind fun p57 =>
      (op p57.2 (.slc 1 (.c v1) (some (.c p57.1)) none none)).bind fun p58 =>
      (op p58.2 (.nck (.c v0))).bind fun p59 =>
      (op p58.2 (.fa [1, 1, 3, 1, 1, 1, 1, 1] 3 (.c p59.1))).bind fun p60 =>
      (op p58.2 (.ld false 1 (.c p60.1))).bind fun p61 =>
      (op p58.2 (.ld true 3 (.c p54.1))).bind fun p62 =>
      (op p58.2 (.ia 3 (.c p61.1) (.c v51))).bind fun p63 =>
      (op p58.2 (.st 3 (.c p63.1) (.c p62.1))).bind fun p64 =>
      (op p64.2 (.bin .add (.c v51) (.c (.lit (.int .i64 1))))).bind fun p65 =>
      l26_2 c v0 p58.1 v6 v50 p65.1 p65.2))
    ((op p35.2 (.nck (.c v0))).bind fun p66 =>
    (op p66.2 (.fa [1, 1, 3, 1, 1, 1, 1, 1] 7 (.c p66.1))).bind fun p67 =>
    (op p67.2 (.st 1 (.c p67.1) (.c (.lit (.bool false))))).bind fun p68 =>
    (op p68.2 (.nck (.c v0))).bind fun p69 =>
    (op p69.2 (.fa [1, 1, 3, 1, 1, 1, 1, 1] 5 (.c p69.1))).bind fun p70 =>
    (op p70.2 (.st 1 (.c p70.1) (.c (.lit (.int .i64 0))))).bind fun p71 =>
    (op p71.2 (.nck (.c v0))).bind fun p72 =>
    (op p72.2 (.fa [1, 1, 3, 1, 1, 1, 1, 1] 6 (.c p72.1))).bind fun p73 =>
    (op p73.2 (.st 1 (.c p73.1) (.c (.lit (.int .i64 0))))).bind fun p74 =>
    fin [] p74.2) := loop_text (by kernel_rfl) (by kernel_rfl)
theorem l26_1_eq (c : Cx) (v0 v1 v6 v34 v35 v36 : D) (h : Hp) : l26_1 c v0 v1 v6 v34 v35 v36 h =
  (op h (.bin .lss (.c v36) (.c v35))).bind fun p20 =>
  cnd p20.1
    ((op p20.2 (.ia 2 (.c v34) (.c v36))).bind fun p21 =>
    (op p21.2 (.ld true 2 (.c p21.1))).bind fun p22 =>
    (op p22.2 (.box true (.c (.agg [1, 1] [(.lit (.string ⟨#[]⟩)), (.lit (.int .i64 0))])))).bind fun p23 =>
    (op p23.2 (.st 2 (.c p23.1) (.c p22.1))).bind fun p24 =>
    (op p24.2 (.fa [1, 1] 1 (.c p23.1))).bind fun p25 =>
    (op p25.2 (.ld false 1 (.c p25.1))).bind fun p26 =>
    (op p26.2 (.bin .sub (.c p26.1) (.c (.lit (.int .i64 1))))).bind fun p27 =>
    (op p27.2 (.ia 1 (.c v6) (.c p27.1))).bind fun p28 =>
    (op p28.2 (.st 1 (.c p28.1) (.c (.lit (.bool true))))).bind fun p29 =>
    (op p29.2 (.bin .add (.c v36) (.c (.lit (.int .i64 1))))).bind fun p30 =>
    l26_1 c v0 v1 v6 v34 v35 p30.1 p30.2)
    ((op p20.2 (.nck (.c v0))).bind fun p31 =>
    (op p31.2 (.fa [1, 1, 3, 1, 1, 1, 1, 1] 3 (.c p31.1))).bind fun p32 =>
    (op p32.2 (.ld false 1 (.c p32.1))).bind fun p33 =>
    (op p33.2 (.len false (.c p33.1))).bind fun p34 =>
    l26_2 c v0 v1 v6 p34.1 (.lit (.int .i64 0)) p34.2) := loop_text (by kernel_rfl) (by kernel_rfl)
theorem e26 (c : Cx) (x0 x1 x2 : D) (h : Hp) : bodyA c a26 [x0, x1, x2] h =
  (c.call 36 [x0] h).bind fun p1 =>
  (op p1.2 (.un .not (.c p1.1))).bind fun p2 =>
  cnd p2.1
    (fin [] p2.2)
    ((op p2.2 (.nck (.c x0))).bind fun p3 =>
    (op p3.2 (.fa [1, 1, 3, 1, 1, 1, 1, 1] 2 (.c p3.1))).bind fun p4 =>
    (op p4.2 (.ld true 3 (.c p4.1))).bind fun p5 =>
    (c.call 48 [p5.1, x2] p5.2).bind fun p6 =>
    (op p6.2 (.nck (.c x0))).bind fun p7 =>
    (op p7.2 (.fa [1, 1, 3, 1, 1, 1, 1, 1] 2 (.c p7.1))).bind fun p8 =>
    (op p8.2 (.st 3 (.c p8.1) (.c p6.1))).bind fun p9 =>
    (op p9.2 (.nck (.c x0))).bind fun p10 =>
    (op p10.2 (.fa [1, 1, 3, 1, 1, 1, 1, 1] 3 (.c p10.1))).bind fun p11 =>
    (op p11.2 (.ld false 1 (.c p11.1))).bind fun p12 =>
    (op p12.2 (.len false (.c p12.1))).bind fun p13 =>
    (op p13.2 (.msl true 1 140737488355328 (.lit (.bool false)) (.c p13.1) (.c p13.1))).bind fun p14 =>
    (op p14.2 (.nck (.c x0))).bind fun p15 =>
    (op p15.2 (.fa [1, 1, 3, 1, 1, 1, 1, 1] 2 (.c p15.1))).bind fun p16 =>
    (op p16.2 (.fa [1, 1, 1] 0 (.c p16.1))).bind fun p17 =>
    (op p17.2 (.ld false 1 (.c p17.1))).bind fun p18 =>
    (op p18.2 (.len false (.c p18.1))).bind fun p19 =>
    l26_1 c x0 x1 p14.1 p18.1 p19.1 (.lit (.int .i64 0)) p19.2) := by kernel_rfl
/-! newsreel/num.Is -/
theorem ok27 : a27.ok = true := by kernel_rfl
theorem e27 (c : Cx) (x0 : D) (h : Hp) : bodyA c a27 [x0] h =
  (op h (.bin .geq (.c x0) (.c (.lit (.int .i64 0))))).bind fun p1 =>
  (grd p1.1 true (op p1.2 (.mv (.c x0))) p1.2).bind fun p2 =>
  (grd p1.1 true (op p2.2 (.bin .leq (.c p2.1) (.c (.lit (.int .i64 1099511627776))))) p2.2).bind fun p3 =>
  (op p3.2 (.pick (.c p1.1) (.c p3.1) (.c (.lit (.bool false))))).bind fun p4 =>
  fin [.v p4.1] p4.2 := by kernel_rfl
/-! (*newsreel/disk.Disk).Move -/
theorem ok28 : a28.ok = true := by kernel_rfl
theorem e28 (c : Cx) (x0 x1 x2 : D) (h : Hp) : bodyA c a28 [x0, x1, x2] h =
  (op h (.build [1, 1, 1, 1] [(.lit (.int .i64 0)), (.lit (.string ⟨#[]⟩)), (.lit (.string ⟨#[]⟩)), (.lit (.int .i64 0))] [(0, (.c (.lit (.int .i64 2)))), (1, (.c x1)), (2, (.c x2))])).bind fun p1 =>
  (c.call 41 [x0, p1.1] p1.2).bind fun p2 =>
  fin [.v p2.1] p2.2 := by kernel_rfl
/-! (*newsreel/disk.Disk).Remove -/
theorem ok29 : a29.ok = true := by kernel_rfl
theorem e29 (c : Cx) (x0 x1 : D) (h : Hp) : bodyA c a29 [x0, x1] h =
  (op h (.build [1, 1, 1, 1] [(.lit (.int .i64 0)), (.lit (.string ⟨#[]⟩)), (.lit (.string ⟨#[]⟩)), (.lit (.int .i64 0))] [(0, (.c (.lit (.int .i64 3)))), (1, (.c x1))])).bind fun p1 =>
  (c.call 41 [x0, p1.1] p1.2).bind fun p2 =>
  fin [.v p2.1] p2.2 := by kernel_rfl
/-! (*newsreel/disk.Disk).Trip -/
theorem ok30 : a30.ok = true := by kernel_rfl
theorem e30 (c : Cx) (x0 x1 : D) (h : Hp) : bodyA c a30 [x0, x1] h =
  (c.call 36 [x0] h).bind fun p1 =>
  cnd p1.1
    ((op p1.2 (.mm true [(.c x1), (.c (.lit (.int .i64 0)))])).bind fun p2 =>
    (op p2.2 (.nck (.c x0))).bind fun p3 =>
    (op p3.2 (.fa [1, 1, 3, 1, 1, 1, 1, 1] 5 (.c p3.1))).bind fun p4 =>
    (op p4.2 (.st 1 (.c p4.1) (.c p2.1))).bind fun p5 =>
    fin [] p5.2)
    (fin [] p1.2) := by kernel_rfl
/-! (*newsreel/newsreelref11.Disk).Do -/
theorem ok31 : a31.ok = true := by kernel_rfl
noncomputable def j31_1 (c : Cx) (v0 v3 : D) (h : Hp) : Option (List D × Hp) := cpsA c.call c.lp (codeA [1, 1, 1] a31.body) ⟨[v0, und, und, v3, und, und, und, und, und, und, und, und, und, und, und, und, und, und, und, und, und, und, und, und, und, und, und, und, und, und, und, und, und, und, und, und, und, und, und, und, und, und, und, und, und, und, und, und, und, und, und, und, und, und, und, und, und, und, und, und, und, und, und, und, und, und], h⟩ (finA a31)
theorem j31_1_eq (c : Cx) (v0 v3 : D) (h : Hp) : j31_1 c v0 v3 h =
  (op h (.box true (.c (.agg [1, 1, 1] [nilD, nilD, nilD])))).bind fun p12 =>
  (op p12.2 (.nck (.c v0))).bind fun p13 =>
  (op p12.2 (.fa [1, 3, 1, 1, 1, 1, 1] 1 (.c p13.1))).bind fun p14 =>
  (op p12.2 (.ld true 3 (.c p14.1))).bind fun p15 =>
  (op p12.2 (.ld true 4 (.c v3))).bind fun p16 =>
  (c.call 50 [p15.1, p16.1] p12.2).bind fun p17 =>
  (op p17.2 (.ext (.c p17.1) 0)).bind fun p18 =>
  (op p17.2 (.ext (.c p17.1) 1)).bind fun p19 =>
  (op p17.2 (.st 3 (.c p12.1) (.c p18.1))).bind fun p20 =>
  (op p20.2 (.bin .neq (.c p19.1) (.c (.lit (.int .i64 0))))).bind fun p21 =>
  cnd p21.1
    (fin [.v p19.1] p21.2)
    ((c.call 51 [v0] p21.2).bind fun p22 =>
    (op p22.2 (.bin .neq (.c p22.1) (.c (.lit (.int .i64 0))))).bind fun p23 =>
    cnd p23.1
      (fin [.v p22.1] p23.2)
      ((op p23.2 (.ld true 3 (.c p12.1))).bind fun p24 =>
      (op p24.2 (.nck (.c v0))).bind fun p25 =>
      (op p25.2 (.fa [1, 3, 1, 1, 1, 1, 1] 1 (.c p25.1))).bind fun p26 =>
      (op p26.2 (.st 3 (.c p26.1) (.c p24.1))).bind fun p27 =>
      (op p27.2 (.fa [1, 1, 1, 1] 0 (.c v3))).bind fun p28 =>
      (op p28.2 (.ld false 1 (.c p28.1))).bind fun p29 =>
      (op p29.2 (.bin .eql (.c p29.1) (.c (.lit (.int .i64 1))))).bind fun p30 =>
      cnd p30.1
        ((op p30.2 (.bsl true 3 [] [])).bind fun p31 =>
        (op p31.2 (.nck (.c v0))).bind fun p32 =>
        (op p32.2 (.fa [1, 3, 1, 1, 1, 1, 1] 2 (.c p32.1))).bind fun p33 =>
        (op p33.2 (.ld false 1 (.c p33.1))).bind fun p34 =>
        (op p34.2 (.app 3 1954687338268 (.c p31.1) (.c p34.1))).bind fun p35 =>
        (op p35.2 (.build [1, 1, 1] [nilD, nilD, nilD] [])).bind fun p36 =>
        (op p36.2 (.bsl false 3 [(.agg [1, 1, 1] [nilD, nilD, nilD])] [(0, (.c p36.1))])).bind fun p37 =>
        (op p37.2 (.app 3 1954687338268 (.c p35.1) (.c p37.1))).bind fun p38 =>
        (op p38.2 (.nck (.c v0))).bind fun p39 =>
        (op p39.2 (.fa [1, 3, 1, 1, 1, 1, 1] 2 (.c p39.1))).bind fun p40 =>
        (op p40.2 (.st 1 (.c p40.1) (.c p38.1))).bind fun p41 =>
        fin [.v (.lit (.int .i64 0))] p41.2)
        (fin [.v (.lit (.int .i64 0))] p30.2))) := by kernel_rfl
theorem e31 (c : Cx) (x0 x1 : D) (h : Hp) : bodyA c a31 [x0, x1] h =
  (op h (.box true (.c x1))).bind fun p1 =>
  (op p1.2 (.nck (.c x0))).bind fun p2 =>
  (op p2.2 (.fa [1, 3, 1, 1, 1, 1, 1] 6 (.c p2.1))).bind fun p3 =>
  (op p3.2 (.ld false 1 (.c p3.1))).bind fun p4 =>
  cnd p4.1
    ((op p4.2 (.nck (.c x0))).bind fun p5 =>
    (op p5.2 (.fa [1, 3, 1, 1, 1, 1, 1] 3 (.c p5.1))).bind fun p6 =>
    (op p6.2 (.ld false 1 (.c p6.1))).bind fun p7 =>
    (op p7.2 (.bin .add (.c p7.1) (.c (.lit (.int .i64 1))))).bind fun p8 =>
    (op p8.2 (.nck (.c x0))).bind fun p9 =>
    (op p9.2 (.fa [1, 3, 1, 1, 1, 1, 1] 3 (.c p9.1))).bind fun p10 =>
    (op p10.2 (.st 1 (.c p10.1) (.c p8.1))).bind fun p11 =>
    fin [.v (.lit (.int .i64 9))] p11.2)
    ((op p4.2 (.fa [1, 1, 1, 1] 0 (.c p1.1))).bind fun p42 =>
    (op p42.2 (.ld false 1 (.c p42.1))).bind fun p43 =>
    (op p43.2 (.bin .eql (.c p43.1) (.c (.lit (.int .i64 1))))).bind fun p44 =>
    cnd p44.1
      ((op p44.2 (.nck (.c x0))).bind fun p45 =>
      (op p45.2 (.fa [1, 3, 1, 1, 1, 1, 1] 2 (.c p45.1))).bind fun p46 =>
      (op p46.2 (.ld false 1 (.c p46.1))).bind fun p47 =>
      (op p47.2 (.len false (.c p47.1))).bind fun p48 =>
      (op p48.2 (.bin .add (.c p48.1) (.c (.lit (.int .i64 1))))).bind fun p49 =>
      (op p49.2 (.fa [1, 1, 1, 1] 3 (.c p1.1))).bind fun p50 =>
      (op p50.2 (.st 1 (.c p50.1) (.c p49.1))).bind fun p51 =>
      j31_1 c x0 p1.1 p51.2)
      (j31_1 c x0 p1.1 p44.2)) := by kernel_rfl
/-! (*newsreel/newsreelref11.Disk).Write -/
theorem ok32 : a32.ok = true := by kernel_rfl
theorem e32 (c : Cx) (x0 x1 x2 x3 : D) (h : Hp) : bodyA c a32 [x0, x1, x2, x3] h =
  (op h (.nck (.c x0))).bind fun p1 =>
  (op p1.2 (.fa [1, 3, 1, 1, 1, 1, 1] 6 (.c p1.1))).bind fun p2 =>
  (op p2.2 (.ld false 1 (.c p2.1))).bind fun p3 =>
  cnd p3.1
    ((op p3.2 (.nck (.c x0))).bind fun p4 =>
    (op p4.2 (.fa [1, 3, 1, 1, 1, 1, 1] 3 (.c p4.1))).bind fun p5 =>
    (op p5.2 (.ld false 1 (.c p5.1))).bind fun p6 =>
    (op p6.2 (.bin .add (.c p6.1) (.c (.lit (.int .i64 1))))).bind fun p7 =>
    (op p7.2 (.nck (.c x0))).bind fun p8 =>
    (op p8.2 (.fa [1, 3, 1, 1, 1, 1, 1] 3 (.c p8.1))).bind fun p9 =>
    (op p9.2 (.st 1 (.c p9.1) (.c p7.1))).bind fun p10 =>
    fin [.v (.lit (.int .i64 9))] p10.2)
    ((op p3.2 (.nck (.c x0))).bind fun p11 =>
    (op p11.2 (.fa [1, 3, 1, 1, 1, 1, 1] 1 (.c p11.1))).bind fun p12 =>
    (op p12.2 (.fa [1, 1, 1] 0 (.c p12.1))).bind fun p13 =>
    (op p13.2 (.ld false 1 (.c p13.1))).bind fun p14 =>
    (c.call 40 [p14.1, x1] p14.2).bind fun p15 =>
    (op p15.2 (.bin .lss (.c p15.1) (.c (.lit (.int .i64 0))))).bind fun p16 =>
    cnd p16.1
      (fin [.v (.lit (.int .i64 5))] p16.2)
      ((c.call 52 [x2, x3] p16.2).bind fun p17 =>
      (op p17.2 (.ext (.c p17.1) 0)).bind fun p18 =>
      (op p18.2 (.ext (.c p17.1) 1)).bind fun p19 =>
      (op p19.2 (.bin .neq (.c p19.1) (.c (.lit (.int .i64 0))))).bind fun p20 =>
      cnd p20.1
        (fin [.v p19.1] p20.2)
        ((op p20.2 (.nck (.c x0))).bind fun p21 =>
        (op p21.2 (.fa [1, 3, 1, 1, 1, 1, 1] 1 (.c p21.1))).bind fun p22 =>
        (op p22.2 (.fa [1, 1, 1] 0 (.c p22.1))).bind fun p23 =>
        (op p23.2 (.ld false 1 (.c p23.1))).bind fun p24 =>
        (op p24.2 (.ia 2 (.c p24.1) (.c p15.1))).bind fun p25 =>
        (op p25.2 (.fa [1, 1] 1 (.c p25.1))).bind fun p26 =>
        (op p26.2 (.ld false 1 (.c p26.1))).bind fun p27 =>
        (op p27.2 (.bin .sub (.c p27.1) (.c (.lit (.int .i64 1))))).bind fun p28 =>
        (op p28.2 (.nck (.c x0))).bind fun p29 =>
        (op p29.2 (.fa [1, 3, 1, 1, 1, 1, 1] 2 (.c p29.1))).bind fun p30 =>
        (op p30.2 (.ld false 1 (.c p30.1))).bind fun p31 =>
        (op p31.2 (.ia 3 (.c p31.1) (.c p28.1))).bind fun p32 =>
        (op p32.2 (.ld true 3 (.c p32.1))).bind fun p33 =>
        (c.call 53 [p33.1, x2, x3] p33.2).bind fun p34 =>
        (op p34.2 (.ext (.c p34.1) 0)).bind fun p35 =>
        (op p35.2 (.ext (.c p34.1) 1)).bind fun p36 =>
        (op p36.2 (.box true (.c (.agg [1, 1, 1] [nilD, nilD, nilD])))).bind fun p37 =>
        (op p37.2 (.st 3 (.c p37.1) (.c p35.1))).bind fun p38 =>
        (c.call 16 [x0] p38.2).bind fun p39 =>
        (op p38.2 (.nck (.c x0))).bind fun p40 =>
        (op p38.2 (.fa [1, 3, 1, 1, 1, 1, 1] 2 (.c p40.1))).bind fun p41 =>
        (op p38.2 (.ld false 1 (.c p41.1))).bind fun p42 =>
        (op p38.2 (.ia 3 (.c p42.1) (.c p28.1))).bind fun p43 =>
        (op p38.2 (.fa [1, 1, 1] 0 (.c p43.1))).bind fun p44 =>
        (op p38.2 (.ld false 1 (.c p44.1))).bind fun p45 =>
        (op p38.2 (.len false (.c p45.1))).bind fun p46 =>
        (op p38.2 (.bin .sub (.c p39.1) (.c p46.1))).bind fun p47 =>
        (op p38.2 (.fa [1, 1, 1] 0 (.c p37.1))).bind fun p48 =>
        (op p38.2 (.ld false 1 (.c p48.1))).bind fun p49 =>
        (op p38.2 (.len false (.c p49.1))).bind fun p50 =>
        (op p38.2 (.bin .add (.c p47.1) (.c p50.1))).bind fun p51 =>
        (op p38.2 (.nck (.c x0))).bind fun p52 =>
        (op p38.2 (.fa [1, 3, 1, 1, 1, 1, 1] 0 (.c p52.1))).bind fun p53 =>
        (op p38.2 (.ld false 1 (.c p53.1))).bind fun p54 =>
        (op p38.2 (.bin .gtr (.c p51.1) (.c p54.1))).bind fun p55 =>
        cnd p55.1
          (fin [.v (.lit (.int .i64 7))] p38.2)
          ((c.call 51 [x0] p38.2).bind fun p56 =>
          (op p56.2 (.bin .neq (.c p56.1) (.c (.lit (.int .i64 0))))).bind fun p57 =>
          cnd p57.1
            (fin [.v p56.1] p57.2)
            ((op p57.2 (.bsl true 3 [] [])).bind fun p58 =>
            (op p58.2 (.nck (.c x0))).bind fun p59 =>
            (op p59.2 (.fa [1, 3, 1, 1, 1, 1, 1] 2 (.c p59.1))).bind fun p60 =>
            (op p60.2 (.ld false 1 (.c p60.1))).bind fun p61 =>
            (op p61.2 (.app 3 1954687338268 (.c p58.1) (.c p61.1))).bind fun p62 =>
            (op p62.2 (.nck (.c x0))).bind fun p63 =>
            (op p63.2 (.fa [1, 3, 1, 1, 1, 1, 1] 2 (.c p63.1))).bind fun p64 =>
            (op p64.2 (.st 1 (.c p64.1) (.c p62.1))).bind fun p65 =>
            (op p65.2 (.nck (.c x0))).bind fun p66 =>
            (op p65.2 (.fa [1, 3, 1, 1, 1, 1, 1] 2 (.c p66.1))).bind fun p67 =>
            (op p65.2 (.ld false 1 (.c p67.1))).bind fun p68 =>
            (op p65.2 (.ld true 3 (.c p37.1))).bind fun p69 =>
            (op p65.2 (.ia 3 (.c p68.1) (.c p28.1))).bind fun p70 =>
            (op p65.2 (.st 3 (.c p70.1) (.c p69.1))).bind fun p71 =>
            fin [.v (.lit (.int .i64 0))] p71.2))))) := by kernel_rfl
/-! (*newsreel/newsreelref11.Disk).Sync -/
theorem ok33 : a33.ok = true := by kernel_rfl
theorem e33 (c : Cx) (x0 x1 : D) (h : Hp) : bodyA c a33 [x0, x1] h =
  (op h (.nck (.c x0))).bind fun p1 =>
  (op p1.2 (.fa [1, 3, 1, 1, 1, 1, 1] 6 (.c p1.1))).bind fun p2 =>
  (op p2.2 (.ld false 1 (.c p2.1))).bind fun p3 =>
  cnd p3.1
    ((op p3.2 (.nck (.c x0))).bind fun p4 =>
    (op p4.2 (.fa [1, 3, 1, 1, 1, 1, 1] 3 (.c p4.1))).bind fun p5 =>
    (op p5.2 (.ld false 1 (.c p5.1))).bind fun p6 =>
    (op p6.2 (.bin .add (.c p6.1) (.c (.lit (.int .i64 1))))).bind fun p7 =>
    (op p7.2 (.nck (.c x0))).bind fun p8 =>
    (op p8.2 (.fa [1, 3, 1, 1, 1, 1, 1] 3 (.c p8.1))).bind fun p9 =>
    (op p9.2 (.st 1 (.c p9.1) (.c p7.1))).bind fun p10 =>
    fin [.v (.lit (.int .i64 9))] p10.2)
    ((op p3.2 (.nck (.c x0))).bind fun p11 =>
    (op p11.2 (.fa [1, 3, 1, 1, 1, 1, 1] 1 (.c p11.1))).bind fun p12 =>
    (op p12.2 (.fa [1, 1, 1] 0 (.c p12.1))).bind fun p13 =>
    (op p13.2 (.ld false 1 (.c p13.1))).bind fun p14 =>
    (c.call 40 [p14.1, x1] p14.2).bind fun p15 =>
    (op p15.2 (.bin .lss (.c p15.1) (.c (.lit (.int .i64 0))))).bind fun p16 =>
    cnd p16.1
      (fin [.v (.lit (.int .i64 5))] p16.2)
      ((c.call 51 [x0] p16.2).bind fun p17 =>
      (op p17.2 (.bin .neq (.c p17.1) (.c (.lit (.int .i64 0))))).bind fun p18 =>
      cnd p18.1
        (fin [.v p17.1] p18.2)
        ((op p18.2 (.nck (.c x0))).bind fun p19 =>
        (op p19.2 (.fa [1, 3, 1, 1, 1, 1, 1] 1 (.c p19.1))).bind fun p20 =>
        (op p20.2 (.fa [1, 1, 1] 0 (.c p20.1))).bind fun p21 =>
        (op p21.2 (.ld false 1 (.c p21.1))).bind fun p22 =>
        (op p22.2 (.ia 2 (.c p22.1) (.c p15.1))).bind fun p23 =>
        (op p23.2 (.fa [1, 1] 1 (.c p23.1))).bind fun p24 =>
        (op p24.2 (.ld false 1 (.c p24.1))).bind fun p25 =>
        (op p25.2 (.bin .sub (.c p25.1) (.c (.lit (.int .i64 1))))).bind fun p26 =>
        (op p26.2 (.bsl true 3 [] [])).bind fun p27 =>
        (op p27.2 (.nck (.c x0))).bind fun p28 =>
        (op p28.2 (.fa [1, 3, 1, 1, 1, 1, 1] 2 (.c p28.1))).bind fun p29 =>
        (op p29.2 (.ld false 1 (.c p29.1))).bind fun p30 =>
        (op p30.2 (.app 3 1954687338268 (.c p27.1) (.c p30.1))).bind fun p31 =>
        (op p31.2 (.nck (.c x0))).bind fun p32 =>
        (op p32.2 (.fa [1, 3, 1, 1, 1, 1, 1] 2 (.c p32.1))).bind fun p33 =>
        (op p33.2 (.st 1 (.c p33.1) (.c p31.1))).bind fun p34 =>
        (op p34.2 (.nck (.c x0))).bind fun p35 =>
        (op p34.2 (.fa [1, 3, 1, 1, 1, 1, 1] 2 (.c p35.1))).bind fun p36 =>
        (op p34.2 (.ld false 1 (.c p36.1))).bind fun p37 =>
        (op p34.2 (.nck (.c x0))).bind fun p38 =>
        (op p34.2 (.fa [1, 3, 1, 1, 1, 1, 1] 2 (.c p38.1))).bind fun p39 =>
        (op p34.2 (.ld false 1 (.c p39.1))).bind fun p40 =>
        (op p34.2 (.ia 3 (.c p40.1) (.c p26.1))).bind fun p41 =>
        (op p34.2 (.ld true 3 (.c p41.1))).bind fun p42 =>
        (c.call 54 [p42.1] p34.2).bind fun p43 =>
        (op p43.2 (.ia 3 (.c p37.1) (.c p26.1))).bind fun p44 =>
        (op p43.2 (.st 3 (.c p44.1) (.c p43.1))).bind fun p45 =>
        if ((sm p37.1 (op p34.2 (.ld false 1 (.c p36.1))) && (sm p37.1 (op p43.2 (.ld false 1 (.c p36.1))) && (true && true))) && true) = true then
        fin [.v (.lit (.int .i64 0))] p45.2
        else none))) := by kernel_rfl
/-! (*newsreel/newsreelref11.Disk).SyncDir -/
theorem ok34 : a34.ok = true := by kernel_rfl
theorem e34 (c : Cx) (x0 : D) (h : Hp) : bodyA c a34 [x0] h =
  (op h (.nck (.c x0))).bind fun p1 =>
  (op p1.2 (.fa [1, 3, 1, 1, 1, 1, 1] 6 (.c p1.1))).bind fun p2 =>
  (op p2.2 (.ld false 1 (.c p2.1))).bind fun p3 =>
  cnd p3.1
    ((op p3.2 (.nck (.c x0))).bind fun p4 =>
    (op p4.2 (.fa [1, 3, 1, 1, 1, 1, 1] 3 (.c p4.1))).bind fun p5 =>
    (op p5.2 (.ld false 1 (.c p5.1))).bind fun p6 =>
    (op p6.2 (.bin .add (.c p6.1) (.c (.lit (.int .i64 1))))).bind fun p7 =>
    (op p7.2 (.nck (.c x0))).bind fun p8 =>
    (op p8.2 (.fa [1, 3, 1, 1, 1, 1, 1] 3 (.c p8.1))).bind fun p9 =>
    (op p9.2 (.st 1 (.c p9.1) (.c p7.1))).bind fun p10 =>
    fin [.v (.lit (.int .i64 9))] p10.2)
    ((c.call 51 [x0] p3.2).bind fun p11 =>
    (op p11.2 (.bin .eql (.c p11.1) (.c (.lit (.int .i64 0))))).bind fun p12 =>
    cnd p12.1
      ((op p12.2 (.nck (.c x0))).bind fun p13 =>
      (op p13.2 (.fa [1, 3, 1, 1, 1, 1, 1] 1 (.c p13.1))).bind fun p14 =>
      (op p14.2 (.ld true 3 (.c p14.1))).bind fun p15 =>
      (c.call 55 [p15.1] p15.2).bind fun p16 =>
      (op p16.2 (.nck (.c x0))).bind fun p17 =>
      (op p17.2 (.fa [1, 3, 1, 1, 1, 1, 1] 1 (.c p17.1))).bind fun p18 =>
      (op p18.2 (.st 3 (.c p18.1) (.c p16.1))).bind fun p19 =>
      fin [.v p11.1] p19.2)
      (fin [.v p11.1] p12.2)) := by kernel_rfl
/-! (*newsreel/newsreelref11.Disk).Reboot -/
theorem ok35 : a35.ok = true := by kernel_rfl
noncomputable def l35_1 (c : Cx) (v0 v1 v6 v7 v8 : D) (h : Hp) : Option (List D × Hp) := c.lp 451 (codeA [1, 1, 1, 0, 1, 0] a35.body).bodyOf (blockK 0 (seqK (cpsA c.call c.lp (codeA [1, 1, 1, 1] a35.body)) (finA a35))) ⟨[v0, v1, und, und, und, und, v6, v7, v8, und, und, und, und, und, und, und, und, und, und, und, und, und, und, und, und, und, und, und, und, und, und, und, und, und, und, und, und, und, und, und, und, und, und, und, und, und, und, und, und, und, und, und, und, und, und, und, und, und, und, und, und, und, und, und, und, und, und, und, und, und, und, und, und, und, und, und, und, und, und, und, und, und, und, und, und, und, und, und, und, und, und, und, und, und, und, und], h⟩
noncomputable def l35_2 (c : Cx) (v0 v1 v6 v7 v8 v9 v10 : D) (h : Hp) : Option (List D × Hp) := c.lp 1987 (codeA [1, 1, 1, 0, 1, 0, 0, 1, 0, 0, 1, 0, 1, 0] a35.body).bodyOf (blockK 2 (seqK (cpsA c.call c.lp (codeA [1, 1, 1, 0, 1, 0, 0, 1, 0, 0, 1, 1] a35.body)) (blockK 1 (seqK (cpsA c.call c.lp (codeA [1, 1, 1, 0, 1, 0, 0, 1, 1] a35.body)) (againK c.lp 451 (codeA [1, 1, 1, 0, 1, 0] a35.body).bodyOf (blockK 0 (seqK (cpsA c.call c.lp (codeA [1, 1, 1, 1] a35.body)) (finA a35)))))))) ⟨[v0, v1, und, und, und, und, v6, v7, v8, v9, v10, und, und, und, und, und, und, und, und, und, und, und, und, und, und, und, und, und, und, und, und, und, und, und, und, und, und, und, und, und, und, und, und, und, und, und, und, und, und, und, und, und, und, und, und, und, und, und, und, und, und, und, und, und, und, und, und, und, und, und, und, und, und, und, und, und, und, und, und, und, und, und, und, und, und, und, und, und, und, und, und, und, und, und, und, und], h⟩
theorem l35_2_eq (c : Cx) (v0 v1 v6 v7 v8 v9 v10 : D) (h : Hp) : l35_2 c v0 v1 v6 v7 v8 v9 v10 h =
  (op h (.nck (.c v0))).bind fun p14 =>
  (op p14.2 (.fa [1, 3, 1, 1, 1, 1, 1] 1 (.c p14.1))).bind fun p15 =>
  (op p15.2 (.fa [1, 1, 1] 0 (.c p15.1))).bind fun p16 =>
  (op p16.2 (.ld false 1 (.c p16.1))).bind fun p17 =>
  (op p17.2 (.len false (.c p17.1))).bind fun p18 =>
  (op p18.2 (.bin .lss (.c v10) (.c p18.1))).bind fun p19 =>
  cnd p19.1
    ((grd v9 false (op p19.2 (.mv (.c v0))) p19.2).bind fun p20 =>
    (grd v9 false (op p20.2 (.nck (.c p20.1))) p20.2).bind fun p21 =>
    (grd v9 false (op p21.2 (.fa [1, 3, 1, 1, 1, 1, 1] 1 (.c p21.1))) p21.2).bind fun p22 =>
    (grd v9 false (op p22.2 (.fa [1, 1, 1] 0 (.c p22.1))) p22.2).bind fun p23 =>
    (grd v9 false (op p23.2 (.ld false 1 (.c p23.1))) p23.2).bind fun p24 =>
    (grd v9 false (op p24.2 (.mv (.c v10))) p24.2).bind fun p25 =>
    (grd v9 false (op p25.2 (.ia 2 (.c p24.1) (.c p25.1))) p25.2).bind fun p26 =>
    (grd v9 false (op p26.2 (.fa [1, 1] 1 (.c p26.1))) p26.2).bind fun p27 =>
    (grd v9 false (op p27.2 (.ld false 1 (.c p27.1))) p27.2).bind fun p28 =>
    (grd v9 false (op p28.2 (.mv (.c v8))) p28.2).bind fun p29 =>
    (grd v9 false (op p29.2 (.bin .add (.c p29.1) (.c (.lit (.int .i64 1))))) p29.2).bind fun p30 =>
    (grd v9 false (op p30.2 (.bin .eql (.c p28.1) (.c p30.1))) p30.2).bind fun p31 =>
    (op p31.2 (.pick (.c v9) (.c (.lit (.bool true))) (.c p31.1))).bind fun p32 =>
    (op p32.2 (.bin .add (.c v10) (.c (.lit (.int .i64 1))))).bind fun p33 =>
    l35_2 c v0 v1 v6 v7 v8 p32.1 p33.1 p33.2)
    ((op p19.2 (.build [1, 1, 1] [nilD, nilD, nilD] [])).bind fun p34 =>
    (op p34.2 (.box true (.c (.agg [1, 1, 1] [nilD, nilD, nilD])))).bind fun p35 =>
    (op p35.2 (.st 3 (.c p35.1) (.c p34.1))).bind fun p36 =>
    cnd v9
      ((op p36.2 (.nck (.c v0))).bind fun p37 =>
      (op p36.2 (.fa [1, 3, 1, 1, 1, 1, 1] 2 (.c p37.1))).bind fun p38 =>
      (op p36.2 (.ld false 1 (.c p38.1))).bind fun p39 =>
      (op p36.2 (.ia 3 (.c p39.1) (.c v8))).bind fun p40 =>
      (op p36.2 (.ld true 3 (.c p40.1))).bind fun p41 =>
      (op p36.2 (.slc 1 (.c v1) (some (.c v7)) none none)).bind fun p42 =>
      (c.call 57 [p41.1, p42.1] p36.2).bind fun p43 =>
      (op p43.2 (.ext (.c p43.1) 0)).bind fun p44 =>
      (op p43.2 (.ext (.c p43.1) 1)).bind fun p45 =>
      (op p43.2 (.st 3 (.c p35.1) (.c p44.1))).bind fun p46 =>
      (op p46.2 (.bin .add (.c v7) (.c p45.1))).bind fun p47 =>
      (op p47.2 (.len false (.c v1))).bind fun p48 =>
      (op p48.2 (.mm false [(.c p47.1), (.c p48.1)])).bind fun p49 =>
      (op p49.2 (.ld true 3 (.c p35.1))).bind fun p50 =>
      (op p50.2 (.bsl false 3 [(.agg [1, 1, 1] [nilD, nilD, nilD])] [(0, (.c p50.1))])).bind fun p51 =>
      (op p51.2 (.app 3 1954687338268 (.c v6) (.c p51.1))).bind fun p52 =>
      (op p52.2 (.bin .add (.c v8) (.c (.lit (.int .i64 1))))).bind fun p53 =>
      l35_1 c v0 v1 p52.1 p49.1 p53.1 p53.2)
      ((op p36.2 (.ld true 3 (.c p35.1))).bind fun p54 =>
      (op p54.2 (.bsl false 3 [(.agg [1, 1, 1] [nilD, nilD, nilD])] [(0, (.c p54.1))])).bind fun p55 =>
      (op p55.2 (.app 3 1954687338268 (.c v6) (.c p55.1))).bind fun p56 =>
      (op p56.2 (.bin .add (.c v8) (.c (.lit (.int .i64 1))))).bind fun p57 =>
      l35_1 c v0 v1 p56.1 v7 p57.1 p57.2)) := loop_text (by kernel_rfl) (by kernel_rfl)
theorem l35_1_eq (c : Cx) (v0 v1 v6 v7 v8 : D) (h : Hp) : l35_1 c v0 v1 v6 v7 v8 h =
  (op h (.nck (.c v0))).bind fun p9 =>
  (op p9.2 (.fa [1, 3, 1, 1, 1, 1, 1] 2 (.c p9.1))).bind fun p10 =>
  (op p10.2 (.ld false 1 (.c p10.1))).bind fun p11 =>
  (op p11.2 (.len false (.c p11.1))).bind fun p12 =>
  (op p12.2 (.bin .lss (.c v8) (.c p12.1))).bind fun p13 =>
  cnd p13.1
    (l35_2 c v0 v1 v6 v7 v8 (.lit (.bool false)) (.lit (.int .i64 0)) p13.2)
    ((op p13.2 (.nck (.c v0))).bind fun p58 =>
    (op p58.2 (.fa [1, 3, 1, 1, 1, 1, 1] 2 (.c p58.1))).bind fun p59 =>
    (op p59.2 (.st 1 (.c p59.1) (.c v6))).bind fun p60 =>
    (op p60.2 (.nck (.c v0))).bind fun p61 =>
    (op p61.2 (.fa [1, 3, 1, 1, 1, 1, 1] 6 (.c p61.1))).bind fun p62 =>
    (op p62.2 (.st 1 (.c p62.1) (.c (.lit (.bool false))))).bind fun p63 =>
    (op p63.2 (.nck (.c v0))).bind fun p64 =>
    (op p64.2 (.fa [1, 3, 1, 1, 1, 1, 1] 4 (.c p64.1))).bind fun p65 =>
    (op p65.2 (.st 1 (.c p65.1) (.c (.lit (.int .i64 0))))).bind fun p66 =>
    (op p66.2 (.nck (.c v0))).bind fun p67 =>
    (op p67.2 (.fa [1, 3, 1, 1, 1, 1, 1] 5 (.c p67.1))).bind fun p68 =>
    (op p68.2 (.st 1 (.c p68.1) (.c (.lit (.int .i64 0))))).bind fun p69 =>
    fin [] p69.2) := loop_text (by kernel_rfl) (by kernel_rfl)
theorem e35 (c : Cx) (x0 x1 x2 : D) (h : Hp) : bodyA c a35 [x0, x1, x2] h =
  (op h (.nck (.c x0))).bind fun p1 =>
  (op p1.2 (.fa [1, 3, 1, 1, 1, 1, 1] 1 (.c p1.1))).bind fun p2 =>
  (op p2.2 (.ld true 3 (.c p2.1))).bind fun p3 =>
  (c.call 56 [p3.1, x2] p3.2).bind fun p4 =>
  (op p4.2 (.nck (.c x0))).bind fun p5 =>
  (op p5.2 (.fa [1, 3, 1, 1, 1, 1, 1] 1 (.c p5.1))).bind fun p6 =>
  (op p6.2 (.st 3 (.c p6.1) (.c p4.1))).bind fun p7 =>
  (op p7.2 (.bsl true 3 [] [])).bind fun p8 =>
  l35_1 c x0 x1 p8.1 (.lit (.int .i64 0)) (.lit (.int .i64 0)) p8.2 := by kernel_rfl
/-! (*newsreel/disk.Disk).good -/
theorem ok36 : a36.ok = true := by kernel_rfl
theorem e36 (c : Cx) (x0 : D) (h : Hp) : bodyA c a36 [x0] h =
  (op h (.eq true .ptr (.c x0) (.c (.lit (.pointer none))))).bind fun p1 =>
  (grd p1.1 true (op p1.2 (.mv (.c x0))) p1.2).bind fun p2 =>
  (grd p1.1 true (op p2.2 (.nck (.c p2.1))) p2.2).bind fun p3 =>
  (grd p1.1 true (op p3.2 (.fa [1, 1, 3, 1, 1, 1, 1, 1] 0 (.c p3.1))) p3.2).bind fun p4 =>
  (grd p1.1 true (op p4.2 (.ld false 1 (.c p4.1))) p4.2).bind fun p5 =>
  (op p5.2 (.pick (.c p1.1) (.c p5.1) (.c (.lit (.bool false))))).bind fun p6 =>
  fin [.v p6.1] p6.2 := by kernel_rfl
/-! (*newsreel/disk.Disk).open -/
theorem ok37 : a37.ok = true := by kernel_rfl
theorem e37 (c : Cx) (x0 x1 : D) (h : Hp) : bodyA c a37 [x0, x1] h =
  (c.call 36 [x0] h).bind fun p1 =>
  (op p1.2 (.un .not (.c p1.1))).bind fun p2 =>
  cnd p2.1
    (fin [.v (.lit (.int .i64 10))] p2.2)
    ((op p2.2 (.nck (.c x0))).bind fun p3 =>
    (op p3.2 (.fa [1, 1, 3, 1, 1, 1, 1, 1] 7 (.c p3.1))).bind fun p4 =>
    (op p4.2 (.ld false 1 (.c p4.1))).bind fun p5 =>
    cnd p5.1
      (cnd x1
        ((op p5.2 (.nck (.c x0))).bind fun p6 =>
        (op p6.2 (.fa [1, 1, 3, 1, 1, 1, 1, 1] 4 (.c p6.1))).bind fun p7 =>
        (op p7.2 (.ld false 1 (.c p7.1))).bind fun p8 =>
        (op p8.2 (.bin .add (.c p8.1) (.c (.lit (.int .i64 1))))).bind fun p9 =>
        (op p9.2 (.nck (.c x0))).bind fun p10 =>
        (op p10.2 (.fa [1, 1, 3, 1, 1, 1, 1, 1] 4 (.c p10.1))).bind fun p11 =>
        (op p11.2 (.st 1 (.c p11.1) (.c p9.1))).bind fun p12 =>
        fin [.v (.lit (.int .i64 9))] p12.2)
        (fin [.v (.lit (.int .i64 9))] p5.2))
      (fin [.v (.lit (.int .i64 0))] p5.2)) := by kernel_rfl
/-! (*newsreel/disk.Disk).at -/
theorem ok38 : a38.ok = true := by kernel_rfl
theorem e38 (c : Cx) (x0 x1 : D) (h : Hp) : bodyA c a38 [x0, x1] h =
  (op h (.nck (.c x0))).bind fun p1 =>
  (op p1.2 (.fa [1, 1, 3, 1, 1, 1, 1, 1] 2 (.c p1.1))).bind fun p2 =>
  (op p2.2 (.ld true 3 (.c p2.1))).bind fun p3 =>
  (c.call 58 [p3.1, x1] p3.2).bind fun p4 =>
  (op p4.2 (.ext (.c p4.1) 0)).bind fun p5 =>
  (op p5.2 (.ext (.c p4.1) 1)).bind fun p6 =>
  (op p6.2 (.un .not (.c p6.1))).bind fun p7 =>
  cnd p7.1
    (fin [.v (.lit (.int .i64 0)), .v (.lit (.int .i64 5))] p7.2)
    ((op p7.2 (.bin .sub (.c p5.1) (.c (.lit (.int .i64 1))))).bind fun p8 =>
    fin [.v p8.1, .v (.lit (.int .i64 0))] p8.2) := by kernel_rfl
/-! bytes.Clone -/
theorem ok39 : a39.ok = true := by kernel_rfl
theorem e39 (c : Cx) (x0 : D) (h : Hp) : bodyA c a39 [x0] h =
  (op h (.eq false .nilS (.c x0) (.c nilD))).bind fun p1 =>
  cnd p1.1
    (fin [.v nilD] p1.2)
    ((op p1.2 (.bsl true 1 [] [])).bind fun p2 =>
    (op p2.2 (.app 1 140737488355328 (.c p2.1) (.c x0))).bind fun p3 =>
    fin [.v p3.1] p3.2) := by kernel_rfl
/-! newsreel/newsreelref10.At -/
theorem ok40 : a40.ok = true := by kernel_rfl
noncomputable def l40_1 (c : Cx) (v0 v1 v5 : D) (h : Hp) : Option (List D × Hp) := c.lp 35 (codeA [1, 0, 1, 0] a40.body).bodyOf (blockK 0 (seqK (cpsA c.call c.lp (codeA [1, 1] a40.body)) (finA a40))) ⟨[v0, v1, und, und, und, v5, und, und, und, und, und, und, und, und, und, und, und, und, und, und], h⟩
theorem l40_1_eq (c : Cx) (v0 v1 v5 : D) (h : Hp) : l40_1 c v0 v1 v5 h =
  (op h (.len false (.c v0))).bind fun p1 =>
  (op p1.2 (.bin .lss (.c v5) (.c p1.1))).bind fun p2 =>
  cnd p2.1
    ((op p2.2 (.ia 2 (.c v0) (.c v5))).bind fun p3 =>
    (op p3.2 (.fa [1, 1] 0 (.c p3.1))).bind fun p4 =>
    (op p4.2 (.ld false 1 (.c p4.1))).bind fun p5 =>
    (op p5.2 (.bin .eql (.c p5.1) (.c v1))).bind fun p6 =>
    cnd p6.1
      (fin [.v v5] p6.2)
      ((op p6.2 (.bin .add (.c v5) (.c (.lit (.int .i64 1))))).bind fun p7 =>
      l40_1 c v0 v1 p7.1 p7.2))
    (fin [.v (.lit (.int .i64 (-1)))] p2.2) := loop_text (by kernel_rfl) (by kernel_rfl)
theorem e40 (c : Cx) (x0 x1 : D) (h : Hp) : bodyA c a40 [x0, x1] h =
  l40_1 c x0 x1 (.lit (.int .i64 0)) h := by kernel_rfl
/-! (*newsreel/disk.Disk).change -/
theorem ok41 : a41.ok = true := by kernel_rfl
theorem e41 (c : Cx) (x0 x1 : D) (h : Hp) : bodyA c a41 [x0, x1] h =
  (op h (.box false (.c x1))).bind fun p1 =>
  (c.call 37 [x0, (.lit (.bool true))] p1.2).bind fun p2 =>
  (op p2.2 (.bin .neq (.c p2.1) (.c (.lit (.int .i64 0))))).bind fun p3 =>
  cnd p3.1
    (fin [.v p2.1] p3.2)
    ((op p3.2 (.box true (.c (.agg [1, 1, 1] [nilD, nilD, nilD])))).bind fun p4 =>
    (op p4.2 (.nck (.c x0))).bind fun p5 =>
    (op p4.2 (.fa [1, 1, 3, 1, 1, 1, 1, 1] 2 (.c p5.1))).bind fun p6 =>
    (op p4.2 (.ld true 3 (.c p6.1))).bind fun p7 =>
    (op p4.2 (.ld true 4 (.c p1.1))).bind fun p8 =>
    (c.call 59 [p7.1, p8.1] p4.2).bind fun p9 =>
    (op p9.2 (.ext (.c p9.1) 0)).bind fun p10 =>
    (op p9.2 (.ext (.c p9.1) 1)).bind fun p11 =>
    (op p9.2 (.st 3 (.c p4.1) (.c p10.1))).bind fun p12 =>
    (op p12.2 (.bin .neq (.c p11.1) (.c (.lit (.int .i64 0))))).bind fun p13 =>
    cnd p13.1
      (fin [.v p11.1] p13.2)
      ((c.call 44 [x0] p13.2).bind fun p14 =>
      (op p14.2 (.bin .neq (.c p14.1) (.c (.lit (.int .i64 0))))).bind fun p15 =>
      cnd p15.1
        (fin [.v p14.1] p15.2)
        ((op p15.2 (.ld true 3 (.c p4.1))).bind fun p16 =>
        (op p16.2 (.nck (.c x0))).bind fun p17 =>
        (op p17.2 (.fa [1, 1, 3, 1, 1, 1, 1, 1] 2 (.c p17.1))).bind fun p18 =>
        (op p18.2 (.st 3 (.c p18.1) (.c p16.1))).bind fun p19 =>
        fin [.v (.lit (.int .i64 0))] p19.2))) := by kernel_rfl
/-! newsreel/block.Pieces -/
theorem ok42 : a42.ok = true := by kernel_rfl
noncomputable def l42_1 (c : Cx) (v0 v1 v6 : D) (h : Hp) : Option (List D × Hp) := c.lp 67 (codeA [1, 1, 1, 1, 0, 0] a42.body).bodyOf (blockK 0 (seqK (cpsA c.call c.lp (codeA [1, 1, 1, 1, 1] a42.body)) (finA a42))) ⟨[v0, v1, und, und, und, und, v6, und, und, und, und, und, und, und, und, und, und, und, und, und, und, und, und, und, und, und, und, und, und, und, und, und, und, und, und, und, und, und, und, und, und, und, und, und], h⟩
theorem l42_1_eq (c : Cx) (v0 v1 v6 : D) (h : Hp) : l42_1 c v0 v1 v6 h =
  (op h (.len false (.c v1))).bind fun p9 =>
  (op p9.2 (.bin .gtr (.c p9.1) (.c (.lit (.int .i64 0))))).bind fun p10 =>
  cnd p10.1
    ((op p10.2 (.bin .rem (.c v0) (.c (.lit (.int .i64 16))))).bind fun p11 =>
    (op p11.2 (.bin .sub (.c (.lit (.int .i64 16))) (.c p11.1))).bind fun p12 =>
    (op p12.2 (.len false (.c v1))).bind fun p13 =>
    (op p13.2 (.mm false [(.c p12.1), (.c p13.1)])).bind fun p14 =>
    (op p14.2 (.slc 1 (.c v1) none (some (.c p14.1)) none)).bind fun p15 =>
    (c.call 39 [p15.1] p15.2).bind fun p16 =>
    (op p16.2 (.build [1, 1] [(.lit (.int .i64 0)), nilD] [(0, (.c v0)), (1, (.c p16.1))])).bind fun p17 =>
    (op p17.2 (.bsl false 2 [(.agg [1, 1] [(.lit (.int .i64 0)), nilD])] [(0, (.c p17.1))])).bind fun p18 =>
    (op p18.2 (.app 2 4398046511104 (.c v6) (.c p18.1))).bind fun p19 =>
    (op p19.2 (.bin .add (.c v0) (.c p14.1))).bind fun p20 =>
    (op p20.2 (.slc 1 (.c v1) (some (.c p14.1)) none none)).bind fun p21 =>
    l42_1 c p20.1 p21.1 p19.1 p21.2)
    (fin [.v v6, .v (.lit (.int .i64 0))] p10.2) := loop_text (by kernel_rfl) (by kernel_rfl)
theorem e42 (c : Cx) (x0 x1 : D) (h : Hp) : bodyA c a42 [x0, x1] h =
  (op h (.bin .lss (.c x0) (.c (.lit (.int .i64 0))))).bind fun p1 =>
  cnd p1.1
    (fin [.v nilD, .v (.lit (.int .i64 1))] p1.2)
    ((op p1.2 (.bin .gtr (.c x0) (.c (.lit (.int .i64 65536))))).bind fun p2 =>
    (grd p2.1 false (op p2.2 (.mv (.c x1))) p2.2).bind fun p3 =>
    (grd p2.1 false (op p3.2 (.len false (.c p3.1))) p3.2).bind fun p4 =>
    (grd p2.1 false (op p4.2 (.mv (.c x0))) p4.2).bind fun p5 =>
    (grd p2.1 false (op p5.2 (.bin .sub (.c (.lit (.int .i64 65536))) (.c p5.1))) p5.2).bind fun p6 =>
    (grd p2.1 false (op p6.2 (.bin .gtr (.c p4.1) (.c p6.1))) p6.2).bind fun p7 =>
    (op p7.2 (.pick (.c p2.1) (.c (.lit (.bool true))) (.c p7.1))).bind fun p8 =>
    cnd p8.1
      (fin [.v nilD, .v (.lit (.int .i64 4))] p8.2)
      (l42_1 c x0 x1 nilD p8.2)) := by kernel_rfl
/-! newsreel/disk.grown -/
theorem ok43 : a43.ok = true := by kernel_rfl
theorem e43 (c : Cx) (x0 x1 : D) (h : Hp) : bodyA c a43 [x0, x1] h =
  (op h (.len false (.c x1))).bind fun p1 =>
  (op p1.2 (.bin .eql (.c p1.1) (.c (.lit (.int .i64 0))))).bind fun p2 =>
  cnd p2.1
    (fin [.v (.lit (.int .i64 0))] p2.2)
    ((op p2.2 (.len false (.c x1))).bind fun p3 =>
    (op p3.2 (.bin .sub (.c p3.1) (.c (.lit (.int .i64 1))))).bind fun p4 =>
    (op p4.2 (.ia 2 (.c x1) (.c p4.1))).bind fun p5 =>
    (op p5.2 (.ld true 2 (.c p5.1))).bind fun p6 =>
    (op p6.2 (.box true (.c (.agg [1, 1] [(.lit (.int .i64 0)), nilD])))).bind fun p7 =>
    (op p7.2 (.st 2 (.c p7.1) (.c p6.1))).bind fun p8 =>
    (op p8.2 (.fa [1, 1] 0 (.c p7.1))).bind fun p9 =>
    (op p9.2 (.ld false 1 (.c p9.1))).bind fun p10 =>
    (op p10.2 (.fa [1, 1] 1 (.c p7.1))).bind fun p11 =>
    (op p11.2 (.ld false 1 (.c p11.1))).bind fun p12 =>
    (op p12.2 (.len false (.c p12.1))).bind fun p13 =>
    (op p13.2 (.bin .add (.c p10.1) (.c p13.1))).bind fun p14 =>
    (op p14.2 (.len false (.c x0))).bind fun p15 =>
    (op p15.2 (.bin .sub (.c p14.1) (.c p15.1))).bind fun p16 =>
    (op p16.2 (.mm true [(.c (.lit (.int .i64 0))), (.c p16.1)])).bind fun p17 =>
    fin [.v p17.1] p17.2) := by kernel_rfl
/-! (*newsreel/disk.Disk).gate -/
theorem ok44 : a44.ok = true := by kernel_rfl
theorem e44 (c : Cx) (x0 : D) (h : Hp) : bodyA c a44 [x0] h =
  (op h (.nck (.c x0))).bind fun p1 =>
  (op p1.2 (.fa [1, 1, 3, 1, 1, 1, 1, 1] 4 (.c p1.1))).bind fun p2 =>
  (op p2.2 (.ld false 1 (.c p2.1))).bind fun p3 =>
  (op p3.2 (.bin .add (.c p3.1) (.c (.lit (.int .i64 1))))).bind fun p4 =>
  (op p4.2 (.nck (.c x0))).bind fun p5 =>
  (op p5.2 (.fa [1, 1, 3, 1, 1, 1, 1, 1] 4 (.c p5.1))).bind fun p6 =>
  (op p6.2 (.st 1 (.c p6.1) (.c p4.1))).bind fun p7 =>
  (op p7.2 (.nck (.c x0))).bind fun p8 =>
  (op p7.2 (.fa [1, 1, 3, 1, 1, 1, 1, 1] 5 (.c p8.1))).bind fun p9 =>
  (op p7.2 (.ld false 1 (.c p9.1))).bind fun p10 =>
  (op p7.2 (.bin .sub (.c p10.1) (.c (.lit (.int .i64 1))))).bind fun p11 =>
  (op p7.2 (.nck (.c x0))).bind fun p12 =>
  (op p7.2 (.fa [1, 1, 3, 1, 1, 1, 1, 1] 6 (.c p12.1))).bind fun p13 =>
  (op p7.2 (.ld false 1 (.c p13.1))).bind fun p14 =>
  (op p7.2 (.bin .sub (.c p14.1) (.c (.lit (.int .i64 1))))).bind fun p15 =>
  (op p7.2 (.nck (.c x0))).bind fun p16 =>
  (op p7.2 (.fa [1, 1, 3, 1, 1, 1, 1, 1] 5 (.c p16.1))).bind fun p17 =>
  (op p7.2 (.st 1 (.c p17.1) (.c p11.1))).bind fun p18 =>
  (op p18.2 (.nck (.c x0))).bind fun p19 =>
  (op p18.2 (.fa [1, 1, 3, 1, 1, 1, 1, 1] 6 (.c p19.1))).bind fun p20 =>
  (op p18.2 (.st 1 (.c p20.1) (.c p15.1))).bind fun p21 =>
  (op p21.2 (.nck (.c x0))).bind fun p22 =>
  (op p22.2 (.fa [1, 1, 3, 1, 1, 1, 1, 1] 6 (.c p22.1))).bind fun p23 =>
  (op p23.2 (.ld false 1 (.c p23.1))).bind fun p24 =>
  (op p24.2 (.bin .eql (.c p24.1) (.c (.lit (.int .i64 0))))).bind fun p25 =>
  cnd p25.1
    ((op p25.2 (.nck (.c x0))).bind fun p26 =>
    (op p26.2 (.fa [1, 1, 3, 1, 1, 1, 1, 1] 7 (.c p26.1))).bind fun p27 =>
    (op p27.2 (.st 1 (.c p27.1) (.c (.lit (.bool true))))).bind fun p28 =>
    fin [.v (.lit (.int .i64 9))] p28.2)
    ((op p25.2 (.nck (.c x0))).bind fun p29 =>
    (op p29.2 (.fa [1, 1, 3, 1, 1, 1, 1, 1] 5 (.c p29.1))).bind fun p30 =>
    (op p30.2 (.ld false 1 (.c p30.1))).bind fun p31 =>
    (op p31.2 (.bin .eql (.c p31.1) (.c (.lit (.int .i64 0))))).bind fun p32 =>
    cnd p32.1
      (fin [.v (.lit (.int .i64 8))] p32.2)
      ((op p32.2 (.nck (.c x0))).bind fun p33 =>
      (op p32.2 (.fa [1, 1, 3, 1, 1, 1, 1, 1] 5 (.c p33.1))).bind fun p34 =>
      (op p32.2 (.ld false 1 (.c p34.1))).bind fun p35 =>
      (op p32.2 (.mm true [(.c p35.1), (.c (.lit (.int .i64 0)))])).bind fun p36 =>
      (op p32.2 (.nck (.c x0))).bind fun p37 =>
      (op p32.2 (.fa [1, 1, 3, 1, 1, 1, 1, 1] 6 (.c p37.1))).bind fun p38 =>
      (op p32.2 (.ld false 1 (.c p38.1))).bind fun p39 =>
      (op p32.2 (.mm true [(.c p39.1), (.c (.lit (.int .i64 0)))])).bind fun p40 =>
      (op p32.2 (.nck (.c x0))).bind fun p41 =>
      (op p32.2 (.fa [1, 1, 3, 1, 1, 1, 1, 1] 5 (.c p41.1))).bind fun p42 =>
      (op p32.2 (.st 1 (.c p42.1) (.c p36.1))).bind fun p43 =>
      (op p43.2 (.nck (.c x0))).bind fun p44 =>
      (op p43.2 (.fa [1, 1, 3, 1, 1, 1, 1, 1] 6 (.c p44.1))).bind fun p45 =>
      (op p43.2 (.st 1 (.c p45.1) (.c p40.1))).bind fun p46 =>
      fin [.v (.lit (.int .i64 0))] p46.2)) := by kernel_rfl
/-! newsreel/block.Lay -/
theorem ok45 : a45.ok = true := by kernel_rfl
noncomputable def l45_1 (c : Cx) (v5 v11 v12 v13 : D) (h : Hp) : Option (List D × Hp) := c.lp 14368 (codeA [1, 1, 0, 1, 0] a45.body).bodyOf (blockK 0 (seqK (cpsA c.call c.lp (codeA [1, 1, 1] a45.body)) (finA a45))) ⟨[und, und, und, und, und, v5, und, und, und, und, und, v11, v12, v13, und, und, und, und, und, und, und, und, und, und, und, und, und, und, und, und, und, und, und, und, und, und, und, und, und, und, und, und, und, und, und], h⟩
theorem l45_1_eq (c : Cx) (v5 v11 v12 v13 : D) (h : Hp) : l45_1 c v5 v11 v12 v13 h =
  (op h (.bin .lss (.c v13) (.c v12))).bind fun p3 =>
  cnd p3.1
    ((op p3.2 (.ia 2 (.c v11) (.c v13))).bind fun p4 =>
    (op p4.2 (.ld true 2 (.c p4.1))).bind fun p5 =>
    (op p5.2 (.box true (.c (.agg [1, 1] [(.lit (.int .i64 0)), nilD])))).bind fun p6 =>
    (op p6.2 (.st 2 (.c p6.1) (.c p5.1))).bind fun p7 =>
    (op p7.2 (.ld true 2 (.c p6.1))).bind fun p8 =>
    (c.call 60 [p8.1] p8.2).bind fun p9 =>
    (op p9.2 (.un .not (.c p9.1))).bind fun p10 =>
    cnd p10.1
      ((op p10.2 (.bin .add (.c v13) (.c (.lit (.int .i64 1))))).bind fun p11 =>
      l45_1 c v5 v11 v12 p11.1 p11.2)
      ((op p10.2 (.fa [1, 1] 0 (.c p6.1))).bind fun p12 =>
      (op p12.2 (.ld false 1 (.c p12.1))).bind fun p13 =>
      (op p13.2 (.fa [1, 1] 1 (.c p6.1))).bind fun p14 =>
      (op p14.2 (.ld false 1 (.c p14.1))).bind fun p15 =>
      (op p15.2 (.len false (.c p15.1))).bind fun p16 =>
      (op p16.2 (.bin .add (.c p13.1) (.c p16.1))).bind fun p17 =>
      (op p17.2 (.len false (.c v5))).bind fun p18 =>
      (op p18.2 (.bin .gtr (.c p17.1) (.c p18.1))).bind fun p19 =>
      cnd p19.1
        ((op p19.2 (.len false (.c v5))).bind fun p20 =>
        (op p20.2 (.bin .sub (.c p17.1) (.c p20.1))).bind fun p21 =>
        (op p21.2 (.appZ 1 140737488355328 (.lit (.int .u8 0)) (.c v5) (.c p21.1))).bind fun p22 =>
        (op p22.2 (.fa [1, 1] 0 (.c p6.1))).bind fun p23 =>
        (op p22.2 (.ld false 1 (.c p23.1))).bind fun p24 =>
        (op p22.2 (.slc 1 (.c p22.1) (some (.c p24.1)) none none)).bind fun p25 =>
        (op p22.2 (.fa [1, 1] 1 (.c p6.1))).bind fun p26 =>
        (op p22.2 (.ld false 1 (.c p26.1))).bind fun p27 =>
        (op p22.2 (.cpy 1 (.c p25.1) (.c p27.1))).bind fun p28 =>
        (op p28.2 (.bin .add (.c v13) (.c (.lit (.int .i64 1))))).bind fun p29 =>
        l45_1 c p22.1 v11 v12 p29.1 p29.2)
        ((op p19.2 (.fa [1, 1] 0 (.c p6.1))).bind fun p30 =>
        (op p19.2 (.ld false 1 (.c p30.1))).bind fun p31 =>
        (op p19.2 (.slc 1 (.c v5) (some (.c p31.1)) none none)).bind fun p32 =>
        (op p19.2 (.fa [1, 1] 1 (.c p6.1))).bind fun p33 =>
        (op p19.2 (.ld false 1 (.c p33.1))).bind fun p34 =>
        (op p19.2 (.cpy 1 (.c p32.1) (.c p34.1))).bind fun p35 =>
        (op p35.2 (.bin .add (.c v13) (.c (.lit (.int .i64 1))))).bind fun p36 =>
        l45_1 c v5 v11 v12 p36.1 p36.2)))
    (fin [.v v5] p3.2) := loop_text (by kernel_rfl) (by kernel_rfl)
theorem e45 (c : Cx) (x0 x1 : D) (h : Hp) : bodyA c a45 [x0, x1] h =
  (c.call 39 [x0] h).bind fun p1 =>
  (op p1.2 (.len false (.c x1))).bind fun p2 =>
  l45_1 c p1.1 x1 p2.1 (.lit (.int .i64 0)) p2.2 := by kernel_rfl
/-! newsreel/file.Sync -/
theorem ok46 : a46.ok = true := by kernel_rfl
theorem e46 (c : Cx) (x0 : D) (h : Hp) : bodyA c a46 [x0] h =
  (op h (.box false (.c x0))).bind fun p1 =>
  (op p1.2 (.box true (.c (.agg [1, 1, 1] [nilD, nilD, nilD])))).bind fun p2 =>
  (op p2.2 (.ld true 3 (.c p1.1))).bind fun p3 =>
  (c.call 61 [p3.1] p3.2).bind fun p4 =>
  (op p4.2 (.un .not (.c p4.1))).bind fun p5 =>
  cnd p5.1
    ((op p5.2 (.build [1, 1, 1] [nilD, nilD, nilD] [])).bind fun p6 =>
    (op p6.2 (.st 3 (.c p2.1) (.c p6.1))).bind fun p7 =>
    fin [.cell p2.1 true 3] p7.2)
    ((op p5.2 (.fa [1, 1, 1] 0 (.c p1.1))).bind fun p8 =>
    (op p8.2 (.ld false 1 (.c p8.1))).bind fun p9 =>
    (c.call 62 [p9.1] p9.2).bind fun p10 =>
    (op p10.2 (.st 3 (.c p2.1) (.c p10.1))).bind fun p11 =>
    fin [.cell p2.1 true 3] p11.2) := by kernel_rfl
/-! newsreel/dir.Sync -/
theorem ok47 : a47.ok = true := by kernel_rfl
theorem e47 (c : Cx) (x0 : D) (h : Hp) : bodyA c a47 [x0] h =
  (op h (.box false (.c x0))).bind fun p1 =>
  (op p1.2 (.box true (.c (.agg [1, 1, 1] [nilD, nilD, nilD])))).bind fun p2 =>
  (op p2.2 (.ld true 3 (.c p1.1))).bind fun p3 =>
  (c.call 63 [p3.1] p3.2).bind fun p4 =>
  (op p4.2 (.un .not (.c p4.1))).bind fun p5 =>
  cnd p5.1
    ((op p5.2 (.build [1, 1, 1] [nilD, nilD, nilD] [])).bind fun p6 =>
    (op p6.2 (.st 3 (.c p2.1) (.c p6.1))).bind fun p7 =>
    fin [.cell p2.1 true 3] p7.2)
    ((op p5.2 (.fa [1, 1, 1] 0 (.c p1.1))).bind fun p8 =>
    (op p5.2 (.ld false 1 (.c p8.1))).bind fun p9 =>
    (c.call 64 [p9.1] p5.2).bind fun p10 =>
    (op p10.2 (.fa [1, 1, 1] 0 (.c p1.1))).bind fun p11 =>
    (op p10.2 (.ld false 1 (.c p11.1))).bind fun p12 =>
    (c.call 64 [p12.1] p10.2).bind fun p13 =>
    (op p13.2 (.build [1, 1, 1] [nilD, nilD, nilD] [(0, (.c p10.1)), (1, (.c p13.1))])).bind fun p14 =>
    (op p13.2 (.st 3 (.c p2.1) (.c p14.1))).bind fun p15 =>
    if ((sm p12.1 (op p5.2 (.ld false 1 (.c p11.1))) && (sm p12.1 (op p10.2 (.ld false 1 (.c p11.1))) && (true && (true && true)))) && true) = true then
    fin [.cell p2.1 true 3] p15.2
    else none) := by kernel_rfl
/-! newsreel/dir.Crash -/
theorem ok48 : a48.ok = true := by kernel_rfl
theorem e48 (c : Cx) (x0 x1 : D) (h : Hp) : bodyA c a48 [x0, x1] h =
  (op h (.box false (.c x0))).bind fun p1 =>
  (op p1.2 (.box true (.c (.agg [1, 1, 1] [nilD, nilD, nilD])))).bind fun p2 =>
  (op p2.2 (.ld true 3 (.c p1.1))).bind fun p3 =>
  (c.call 63 [p3.1] p3.2).bind fun p4 =>
  (op p4.2 (.un .not (.c p4.1))).bind fun p5 =>
  cnd p5.1
    ((op p5.2 (.build [1, 1, 1] [nilD, nilD, nilD] [])).bind fun p6 =>
    (op p6.2 (.st 3 (.c p2.1) (.c p6.1))).bind fun p7 =>
    fin [.cell p2.1 true 3] p7.2)
    ((op p5.2 (.fa [1, 1, 1] 1 (.c p1.1))).bind fun p8 =>
    (op p5.2 (.ld false 1 (.c p8.1))).bind fun p9 =>
    (op p5.2 (.fa [1, 1, 1] 2 (.c p1.1))).bind fun p10 =>
    (op p5.2 (.ld false 1 (.c p10.1))).bind fun p11 =>
    (op p5.2 (.fa [1, 1, 1] 2 (.c p1.1))).bind fun p12 =>
    (op p5.2 (.ld false 1 (.c p12.1))).bind fun p13 =>
    (op p5.2 (.len false (.c p13.1))).bind fun p14 =>
    (op p5.2 (.mm false [(.c x1), (.c p14.1)])).bind fun p15 =>
    (op p5.2 (.mm true [(.c (.lit (.int .i64 0))), (.c p15.1)])).bind fun p16 =>
    (op p5.2 (.slc 4 (.c p11.1) none (some (.c p16.1)) none)).bind fun p17 =>
    (c.call 65 [p9.1, p17.1] p5.2).bind fun p18 =>
    (op p18.2 (.ext (.c p18.1) 0)).bind fun p19 =>
    (op p18.2 (.ext (.c p18.1) 1)).bind fun p20 =>
    (c.call 64 [p19.1] p18.2).bind fun p21 =>
    (c.call 64 [p19.1] p21.2).bind fun p22 =>
    (op p22.2 (.build [1, 1, 1] [nilD, nilD, nilD] [(0, (.c p21.1)), (1, (.c p22.1))])).bind fun p23 =>
    (op p23.2 (.st 3 (.c p2.1) (.c p23.1))).bind fun p24 =>
    fin [.cell p2.1 true 3] p24.2) := by kernel_rfl
/-! newsreel/file.Crash -/
theorem ok49 : a49.ok = true := by kernel_rfl
noncomputable def l49_1 (c : Cx) (v1 v2 v4 v6 v16 v17 v18 : D) (h : Hp) : Option (List D × Hp) := c.lp 458838 (codeA [1, 1, 1, 0, 1, 0] a49.body).bodyOf (blockK 0 (seqK (cpsA c.call c.lp (codeA [1, 1, 1, 1] a49.body)) (finA a49))) ⟨[und, v1, v2, und, v4, und, v6, und, und, und, und, und, und, und, und, und, v16, v17, v18, und, und, und, und, und, und, und, und, und, und, und, und, und, und, und, und, und, und, und, und, und, und, und, und], h⟩
theorem l49_1_eq (c : Cx) (v1 v2 v4 v6 v16 v17 v18 : D) (h : Hp) : l49_1 c v1 v2 v4 v6 v16 v17 v18 h =
  (op h (.bin .lss (.c v18) (.c v17))).bind fun p13 =>
  cnd p13.1
    ((op p13.2 (.ia 2 (.c v16) (.c v18))).bind fun p14 =>
    (op p14.2 (.ld true 2 (.c p14.1))).bind fun p15 =>
    (op p15.2 (.box true (.c (.agg [1, 1] [(.lit (.int .i64 0)), nilD])))).bind fun p16 =>
    (op p16.2 (.st 2 (.c p16.1) (.c p15.1))).bind fun p17 =>
    (op p17.2 (.len false (.c v1))).bind fun p18 =>
    (op p18.2 (.bin .lss (.c v18) (.c p18.1))).bind fun p19 =>
    (grd p19.1 true (op p19.2 (.mv (.c v1))) p19.2).bind fun p20 =>
    (grd p19.1 true (op p20.2 (.mv (.c v18))) p20.2).bind fun p21 =>
    (grd p19.1 true (op p21.2 (.ia 1 (.c p20.1) (.c p21.1))) p21.2).bind fun p22 =>
    (grd p19.1 true (op p22.2 (.ld false 1 (.c p22.1))) p22.2).bind fun p23 =>
    (op p23.2 (.pick (.c p19.1) (.c p23.1) (.c (.lit (.bool false))))).bind fun p24 =>
    cnd p24.1
      ((op p24.2 (.ld true 2 (.c p16.1))).bind fun p25 =>
      (op p25.2 (.bsl false 2 [(.agg [1, 1] [(.lit (.int .i64 0)), nilD])] [(0, (.c p25.1))])).bind fun p26 =>
      (c.call 45 [v6, p26.1] p26.2).bind fun p27 =>
      (op p27.2 (.bin .add (.c v18) (.c (.lit (.int .i64 1))))).bind fun p28 =>
      l49_1 c v1 v2 v4 p27.1 v16 v17 p28.1 p28.2)
      ((op p24.2 (.bin .add (.c v18) (.c (.lit (.int .i64 1))))).bind fun p29 =>
      l49_1 c v1 v2 v4 v6 v16 v17 p29.1 p29.2))
    ((c.call 62 [v6] p13.2).bind fun p30 =>
    (op p30.2 (.fa [1, 1, 1] 2 (.c v2))).bind fun p31 =>
    (op p30.2 (.ld false 1 (.c p31.1))).bind fun p32 =>
    (op p30.2 (.len false (.c p32.1))).bind fun p33 =>
    (op p30.2 (.st 3 (.c v4) (.c p30.1))).bind fun p34 =>
    if ((sm p32.1 (op p13.2 (.ld false 1 (.c p31.1))) && (sm p32.1 (op p30.2 (.ld false 1 (.c p31.1))) && (sm p32.1 (op p34.2 (.ld false 1 (.c p31.1))) && true))) && true) = true then
    fin [.cell v4 true 3, .v p33.1] p34.2
    else none) := loop_text (by kernel_rfl) (by kernel_rfl)
theorem e49 (c : Cx) (x0 x1 : D) (h : Hp) : bodyA c a49 [x0, x1] h =
  (op h (.box false (.c x0))).bind fun p1 =>
  (op p1.2 (.box true (.c (.agg [1, 1, 1] [nilD, nilD, nilD])))).bind fun p2 =>
  (op p2.2 (.ld true 3 (.c p1.1))).bind fun p3 =>
  (c.call 61 [p3.1] p3.2).bind fun p4 =>
  (op p4.2 (.un .not (.c p4.1))).bind fun p5 =>
  cnd p5.1
    ((op p5.2 (.build [1, 1, 1] [nilD, nilD, nilD] [])).bind fun p6 =>
    (op p6.2 (.st 3 (.c p2.1) (.c p6.1))).bind fun p7 =>
    fin [.cell p2.1 true 3, .v (.lit (.int .i64 0))] p7.2)
    ((op p5.2 (.fa [1, 1, 1] 1 (.c p1.1))).bind fun p8 =>
    (op p8.2 (.ld false 1 (.c p8.1))).bind fun p9 =>
    (op p9.2 (.fa [1, 1, 1] 2 (.c p1.1))).bind fun p10 =>
    (op p10.2 (.ld false 1 (.c p10.1))).bind fun p11 =>
    (op p11.2 (.len false (.c p11.1))).bind fun p12 =>
    l49_1 c x1 p1.1 p2.1 p9.1 p11.1 p12.1 (.lit (.int .i64 0)) p12.2) := by kernel_rfl
/-! newsreel/newsreelref10.Do -/
theorem ok50 : a50.ok = true := by kernel_rfl
theorem e50 (c : Cx) (x0 x1 : D) (h : Hp) : bodyA c a50 [x0, x1] h =
  (op h (.box false (.c x0))).bind fun p1 =>
  (op p1.2 (.box false (.c x1))).bind fun p2 =>
  (op p2.2 (.box true (.c (.agg [1, 1, 1] [nilD, nilD, nilD])))).bind fun p3 =>
  (op p3.2 (.ld true 3 (.c p1.1))).bind fun p4 =>
  (c.call 66 [p4.1] p4.2).bind fun p5 =>
  (op p5.2 (.un .not (.c p5.1))).bind fun p6 =>
  cnd p6.1
    ((op p6.2 (.build [1, 1, 1] [nilD, nilD, nilD] [])).bind fun p7 =>
    (op p7.2 (.st 3 (.c p3.1) (.c p7.1))).bind fun p8 =>
    fin [.cell p3.1 true 3, .v (.lit (.int .i64 10))] p8.2)
    ((op p6.2 (.fa [1, 1, 1] 0 (.c p1.1))).bind fun p9 =>
    (op p9.2 (.ld false 1 (.c p9.1))).bind fun p10 =>
    (op p10.2 (.ld true 4 (.c p2.1))).bind fun p11 =>
    (c.call 67 [p10.1, p11.1] p11.2).bind fun p12 =>
    (op p12.2 (.ext (.c p12.1) 0)).bind fun p13 =>
    (op p13.2 (.ext (.c p12.1) 1)).bind fun p14 =>
    (op p14.2 (.bin .neq (.c p14.1) (.c (.lit (.int .i64 0))))).bind fun p15 =>
    cnd p15.1
      ((op p15.2 (.build [1, 1, 1] [nilD, nilD, nilD] [])).bind fun p16 =>
      (op p16.2 (.st 3 (.c p3.1) (.c p16.1))).bind fun p17 =>
      fin [.cell p3.1 true 3, .v p14.1] p17.2)
      ((op p15.2 (.fa [1, 1, 1] 1 (.c p1.1))).bind fun p18 =>
      (op p15.2 (.ld false 1 (.c p18.1))).bind fun p19 =>
      (op p15.2 (.bsl true 4 [] [])).bind fun p20 =>
      (op p20.2 (.fa [1, 1, 1] 2 (.c p1.1))).bind fun p21 =>
      (op p20.2 (.ld false 1 (.c p21.1))).bind fun p22 =>
      (op p20.2 (.app 4 2932031007402 (.c p20.1) (.c p22.1))).bind fun p23 =>
      (op p23.2 (.ld true 4 (.c p2.1))).bind fun p24 =>
      (op p23.2 (.bsl false 4 [(.agg [1, 1, 1, 1] [(.lit (.int .i64 0)), (.lit (.string ⟨#[]⟩)), (.lit (.string ⟨#[]⟩)), (.lit (.int .i64 0))])] [(0, (.c p24.1))])).bind fun p25 =>
      (op p23.2 (.app 4 2932031007402 (.c p23.1) (.c p25.1))).bind fun p26 =>
      (op p26.2 (.build [1, 1, 1] [nilD, nilD, nilD] [(0, (.c p13.1)), (1, (.c p19.1)), (2, (.c p26.1))])).bind fun p27 =>
      (op p26.2 (.st 3 (.c p3.1) (.c p27.1))).bind fun p28 =>
      if ((sm p24.1 (op p15.2 (.ld true 4 (.c p2.1))) && (sm p24.1 (op p20.2 (.ld true 4 (.c p2.1))) && (sm p24.1 (op p23.2 (.ld true 4 (.c p2.1))) && (true && (true && true))))) && ((sm p22.1 (op p15.2 (.ld false 1 (.c p21.1))) && (sm p22.1 (op p20.2 (.ld false 1 (.c p21.1))) && (true && (true && (true && true))))) && ((sm p19.1 (op p15.2 (.ld false 1 (.c p18.1))) && (sm p19.1 (op p20.2 (.ld false 1 (.c p18.1))) && (sm p19.1 (op p23.2 (.ld false 1 (.c p18.1))) && (sm p19.1 (op p26.2 (.ld false 1 (.c p18.1))) && (true && true))))) && true))) = true then
      fin [.cell p3.1 true 3, .v (.lit (.int .i64 0))] p28.2
      else none)) := by kernel_rfl
/-! (*newsreel/newsreelref11.Disk).count -/
theorem ok51 : a51.ok = true := by kernel_rfl
noncomputable def j51_1 (c : Cx) (v0 v3 v4 : D) (h : Hp) : Option (List D × Hp) := cpsA c.call c.lp (codeA [1, 1, 1, 1] a51.body) ⟨[v0, und, und, v3, v4, und, und, und, und, und, und, und, und, und, und, und, und, und, und, und, und, und, und, und, und, und, und, und, und, und, und, und, und, und, und, und, und, und, und, und, und, und, und, und, und, und, und, und, und, und, und, und, und, und], h⟩ (finA a51)
theorem j51_1_eq (c : Cx) (v0 v3 v4 : D) (h : Hp) : j51_1 c v0 v3 v4 h =
  (op h (.nck (.c v0))).bind fun p16 =>
  (op p16.2 (.fa [1, 3, 1, 1, 1, 1, 1] 4 (.c p16.1))).bind fun p17 =>
  (op p17.2 (.ld false 1 (.c p17.1))).bind fun p18 =>
  (op p18.2 (.bin .gtr (.c p18.1) (.c (.lit (.int .i64 0))))).bind fun p19 =>
  cnd p19.1
    ((op p19.2 (.nck (.c v0))).bind fun p20 =>
    (op p20.2 (.fa [1, 3, 1, 1, 1, 1, 1] 4 (.c p20.1))).bind fun p21 =>
    (op p21.2 (.ld false 1 (.c p21.1))).bind fun p22 =>
    (op p22.2 (.bin .sub (.c p22.1) (.c (.lit (.int .i64 1))))).bind fun p23 =>
    (op p23.2 (.nck (.c v0))).bind fun p24 =>
    (op p24.2 (.fa [1, 3, 1, 1, 1, 1, 1] 4 (.c p24.1))).bind fun p25 =>
    (op p25.2 (.st 1 (.c p25.1) (.c p23.1))).bind fun p26 =>
    cnd v3
      ((op p26.2 (.nck (.c v0))).bind fun p27 =>
      (op p27.2 (.fa [1, 3, 1, 1, 1, 1, 1] 6 (.c p27.1))).bind fun p28 =>
      (op p28.2 (.st 1 (.c p28.1) (.c (.lit (.bool true))))).bind fun p29 =>
      fin [.v (.lit (.int .i64 9))] p29.2)
      (cnd v4
        (fin [.v (.lit (.int .i64 8))] p26.2)
        (fin [.v (.lit (.int .i64 0))] p26.2)))
    (cnd v3
      ((op p19.2 (.nck (.c v0))).bind fun p30 =>
      (op p30.2 (.fa [1, 3, 1, 1, 1, 1, 1] 6 (.c p30.1))).bind fun p31 =>
      (op p31.2 (.st 1 (.c p31.1) (.c (.lit (.bool true))))).bind fun p32 =>
      fin [.v (.lit (.int .i64 9))] p32.2)
      (cnd v4
        (fin [.v (.lit (.int .i64 8))] p19.2)
        (fin [.v (.lit (.int .i64 0))] p19.2))) := by kernel_rfl
theorem e51 (c : Cx) (x0 : D) (h : Hp) : bodyA c a51 [x0] h =
  (op h (.nck (.c x0))).bind fun p1 =>
  (op p1.2 (.fa [1, 3, 1, 1, 1, 1, 1] 3 (.c p1.1))).bind fun p2 =>
  (op p2.2 (.ld false 1 (.c p2.1))).bind fun p3 =>
  (op p3.2 (.bin .add (.c p3.1) (.c (.lit (.int .i64 1))))).bind fun p4 =>
  (op p4.2 (.nck (.c x0))).bind fun p5 =>
  (op p5.2 (.fa [1, 3, 1, 1, 1, 1, 1] 3 (.c p5.1))).bind fun p6 =>
  (op p6.2 (.st 1 (.c p6.1) (.c p4.1))).bind fun p7 =>
  (op p7.2 (.nck (.c x0))).bind fun p8 =>
  (op p7.2 (.fa [1, 3, 1, 1, 1, 1, 1] 5 (.c p8.1))).bind fun p9 =>
  (op p7.2 (.ld false 1 (.c p9.1))).bind fun p10 =>
  (op p7.2 (.bin .eql (.c p10.1) (.c (.lit (.int .i64 1))))).bind fun p11 =>
  (op p7.2 (.nck (.c x0))).bind fun p12 =>
  (op p7.2 (.fa [1, 3, 1, 1, 1, 1, 1] 4 (.c p12.1))).bind fun p13 =>
  (op p7.2 (.ld false 1 (.c p13.1))).bind fun p14 =>
  (op p7.2 (.bin .eql (.c p14.1) (.c (.lit (.int .i64 1))))).bind fun p15 =>
  (op p7.2 (.nck (.c x0))).bind fun p33 =>
  (op p33.2 (.fa [1, 3, 1, 1, 1, 1, 1] 5 (.c p33.1))).bind fun p34 =>
  (op p34.2 (.ld false 1 (.c p34.1))).bind fun p35 =>
  (op p35.2 (.bin .gtr (.c p35.1) (.c (.lit (.int .i64 0))))).bind fun p36 =>
  cnd p36.1
    ((op p36.2 (.nck (.c x0))).bind fun p37 =>
    (op p37.2 (.fa [1, 3, 1, 1, 1, 1, 1] 5 (.c p37.1))).bind fun p38 =>
    (op p38.2 (.ld false 1 (.c p38.1))).bind fun p39 =>
    (op p39.2 (.bin .sub (.c p39.1) (.c (.lit (.int .i64 1))))).bind fun p40 =>
    (op p40.2 (.nck (.c x0))).bind fun p41 =>
    (op p41.2 (.fa [1, 3, 1, 1, 1, 1, 1] 5 (.c p41.1))).bind fun p42 =>
    (op p42.2 (.st 1 (.c p42.1) (.c p40.1))).bind fun p43 =>
    j51_1 c x0 p11.1 p15.1 p43.2)
    (j51_1 c x0 p11.1 p15.1 p36.2) := by kernel_rfl
/-! newsreel/newsreelref08.Pieces -/
theorem ok52 : a52.ok = true := by kernel_rfl
noncomputable def l52_1 (c : Cx) (v0 v1 v6 v7 : D) (h : Hp) : Option (List D × Hp) := c.lp 195 (codeA [1, 1, 1, 1, 0, 1, 0] a52.body).bodyOf (blockK 0 (seqK (cpsA c.call c.lp (codeA [1, 1, 1, 1, 1] a52.body)) (finA a52))) ⟨[v0, v1, und, und, und, und, v6, v7, und, und, und, und, und, und, und, und, und, und, und, und, und, und, und, und, und, und, und, und, und, und, und, und, und, und, und, und, und, und, und, und, und, und, und, und, und, und, und, und, und, und, und, und, und, und, und, und, und, und, und, und, und, und], h⟩
noncomputable def j52_2 (c : Cx) (v0 v1 v6 v7 : D) (h : Hp) : Option (List D × Hp) := cpsA c.call c.lp (codeA [1, 1, 1, 1, 0, 1, 0, 0, 1, 0, 0, 1] a52.body) ⟨[v0, v1, und, und, und, und, v6, v7, und, und, und, und, und, und, und, und, und, und, und, und, und, und, und, und, und, und, und, und, und, und, und, und, und, und, und, und, und, und, und, und, und, und, und, und, und, und, und, und, und, und, und, und, und, und, und, und, und, und, und, und, und, und], h⟩ (blockK 1 (seqK (cpsA c.call c.lp (codeA [1, 1, 1, 1, 0, 1, 0, 0, 1, 1] a52.body)) (againK c.lp 195 (codeA [1, 1, 1, 1, 0, 1, 0] a52.body).bodyOf (blockK 0 (seqK (cpsA c.call c.lp (codeA [1, 1, 1, 1, 1] a52.body)) (finA a52))))))
theorem j52_2_eq (c : Cx) (v0 v1 v6 v7 : D) (h : Hp) : j52_2 c v0 v1 v6 v7 h =
  (op h (.len false (.c v6))).bind fun p12 =>
  (op p12.2 (.bin .sub (.c p12.1) (.c (.lit (.int .i64 1))))).bind fun p13 =>
  (op p13.2 (.ia 2 (.c v6) (.c p13.1))).bind fun p14 =>
  (op p13.2 (.fa [1, 1] 1 (.c p14.1))).bind fun p15 =>
  (op p13.2 (.ld false 1 (.c p15.1))).bind fun p16 =>
  (op p13.2 (.ia 1 (.c v1) (.c v7))).bind fun p17 =>
  (op p13.2 (.ld false 1 (.c p17.1))).bind fun p18 =>
  (op p13.2 (.bsl false 1 [(.lit (.int .u8 0))] [(0, (.c p18.1))])).bind fun p19 =>
  (op p13.2 (.app 1 140737488355328 (.c p16.1) (.c p19.1))).bind fun p20 =>
  (op p20.2 (.ia 2 (.c v6) (.c p13.1))).bind fun p21 =>
  (op p20.2 (.fa [1, 1] 1 (.c p21.1))).bind fun p22 =>
  (op p20.2 (.st 1 (.c p22.1) (.c p20.1))).bind fun p23 =>
  (op p23.2 (.bin .add (.c v7) (.c (.lit (.int .i64 1))))).bind fun p24 =>
  l52_1 c v0 v1 v6 p24.1 p24.2 := by kernel_rfl
theorem l52_1_eq (c : Cx) (v0 v1 v6 v7 : D) (h : Hp) : l52_1 c v0 v1 v6 v7 h =
  (op h (.len false (.c v1))).bind fun p10 =>
  (op p10.2 (.bin .lss (.c v7) (.c p10.1))).bind fun p11 =>
  cnd p11.1
    ((op p11.2 (.bin .eql (.c v7) (.c (.lit (.int .i64 0))))).bind fun p25 =>
    (grd p25.1 false (op p25.2 (.mv (.c v0))) p25.2).bind fun p26 =>
    (grd p25.1 false (op p26.2 (.mv (.c v7))) p26.2).bind fun p27 =>
    (grd p25.1 false (op p27.2 (.bin .add (.c p26.1) (.c p27.1))) p27.2).bind fun p28 =>
    (grd p25.1 false (op p28.2 (.bin .rem (.c p28.1) (.c (.lit (.int .i64 16))))) p28.2).bind fun p29 =>
    (grd p25.1 false (op p29.2 (.bin .eql (.c p29.1) (.c (.lit (.int .i64 0))))) p29.2).bind fun p30 =>
    (op p30.2 (.pick (.c p25.1) (.c (.lit (.bool true))) (.c p30.1))).bind fun p31 =>
    cnd p31.1
      ((op p31.2 (.bin .add (.c v0) (.c v7))).bind fun p32 =>
      (op p32.2 (.build [1, 1] [(.lit (.int .i64 0)), nilD] [(0, (.c p32.1))])).bind fun p33 =>
      (op p33.2 (.bsl false 2 [(.agg [1, 1] [(.lit (.int .i64 0)), nilD])] [(0, (.c p33.1))])).bind fun p34 =>
      (op p34.2 (.app 2 4398046511104 (.c v6) (.c p34.1))).bind fun p35 =>
      j52_2 c v0 v1 p35.1 v7 p35.2)
      (j52_2 c v0 v1 v6 v7 p31.2))
    (fin [.v v6, .v (.lit (.int .i64 0))] p11.2) := loop_text (by kernel_rfl) (by kernel_rfl)
theorem e52 (c : Cx) (x0 x1 : D) (h : Hp) : bodyA c a52 [x0, x1] h =
  (op h (.bin .lss (.c x0) (.c (.lit (.int .i64 0))))).bind fun p1 =>
  cnd p1.1
    (fin [.v nilD, .v (.lit (.int .i64 1))] p1.2)
    ((op p1.2 (.bin .gtr (.c x0) (.c (.lit (.int .i64 65536))))).bind fun p2 =>
    (grd p2.1 false (op p2.2 (.mv (.c x1))) p2.2).bind fun p3 =>
    (grd p2.1 false (op p3.2 (.len false (.c p3.1))) p3.2).bind fun p4 =>
    (grd p2.1 false (op p4.2 (.mv (.c x0))) p4.2).bind fun p5 =>
    (grd p2.1 false (op p5.2 (.bin .sub (.c (.lit (.int .i64 65536))) (.c p5.1))) p5.2).bind fun p6 =>
    (grd p2.1 false (op p6.2 (.bin .gtr (.c p4.1) (.c p6.1))) p6.2).bind fun p7 =>
    (op p7.2 (.pick (.c p2.1) (.c (.lit (.bool true))) (.c p7.1))).bind fun p8 =>
    cnd p8.1
      (fin [.v nilD, .v (.lit (.int .i64 4))] p8.2)
      ((op p8.2 (.bsl true 2 [] [])).bind fun p9 =>
      l52_1 c x0 x1 p9.1 (.lit (.int .i64 0)) p9.2)) := by kernel_rfl
/-! newsreel/newsreelref09.Write -/
theorem ok53 : a53.ok = true := by kernel_rfl
theorem e53 (c : Cx) (x0 x1 x2 : D) (h : Hp) : bodyA c a53 [x0, x1, x2] h =
  (op h (.box false (.c x0))).bind fun p1 =>
  (op p1.2 (.box true (.c (.agg [1, 1, 1] [nilD, nilD, nilD])))).bind fun p2 =>
  (op p2.2 (.ld true 3 (.c p1.1))).bind fun p3 =>
  (c.call 68 [p3.1] p3.2).bind fun p4 =>
  (op p4.2 (.un .not (.c p4.1))).bind fun p5 =>
  cnd p5.1
    ((op p5.2 (.build [1, 1, 1] [nilD, nilD, nilD] [])).bind fun p6 =>
    (op p6.2 (.st 3 (.c p2.1) (.c p6.1))).bind fun p7 =>
    fin [.cell p2.1 true 3, .v (.lit (.int .i64 10))] p7.2)
    ((c.call 52 [x1, x2] p5.2).bind fun p8 =>
    (op p8.2 (.ext (.c p8.1) 0)).bind fun p9 =>
    (op p9.2 (.ext (.c p8.1) 1)).bind fun p10 =>
    (op p10.2 (.bin .neq (.c p10.1) (.c (.lit (.int .i64 0))))).bind fun p11 =>
    cnd p11.1
      ((op p11.2 (.build [1, 1, 1] [nilD, nilD, nilD] [])).bind fun p12 =>
      (op p12.2 (.st 3 (.c p2.1) (.c p12.1))).bind fun p13 =>
      fin [.cell p2.1 true 3, .v p10.1] p13.2)
      ((op p11.2 (.bsl true 2 [] [])).bind fun p14 =>
      (op p14.2 (.fa [1, 1, 1] 2 (.c p1.1))).bind fun p15 =>
      (op p15.2 (.ld false 1 (.c p15.1))).bind fun p16 =>
      (op p16.2 (.app 2 4398046511104 (.c p14.1) (.c p16.1))).bind fun p17 =>
      (op p17.2 (.app 2 4398046511104 (.c p17.1) (.c p9.1))).bind fun p18 =>
      (op p18.2 (.fa [1, 1, 1] 1 (.c p1.1))).bind fun p19 =>
      (op p18.2 (.ld false 1 (.c p19.1))).bind fun p20 =>
      (c.call 69 [p20.1, p18.1] p18.2).bind fun p21 =>
      (op p21.2 (.fa [1, 1, 1] 1 (.c p1.1))).bind fun p22 =>
      (op p21.2 (.ld false 1 (.c p22.1))).bind fun p23 =>
      (op p21.2 (.build [1, 1, 1] [nilD, nilD, nilD] [(0, (.c p21.1)), (1, (.c p23.1)), (2, (.c p18.1))])).bind fun p24 =>
      (op p21.2 (.st 3 (.c p2.1) (.c p24.1))).bind fun p25 =>
      if ((sm p23.1 (op p18.2 (.ld false 1 (.c p22.1))) && (sm p23.1 (op p21.2 (.ld false 1 (.c p22.1))) && (true && true))) && true) = true then
      fin [.cell p2.1 true 3, .v (.lit (.int .i64 0))] p25.2
      else none)) := by kernel_rfl
/-! newsreel/newsreelref09.Sync -/
theorem ok54 : a54.ok = true := by kernel_rfl
theorem e54 (c : Cx) (x0 : D) (h : Hp) : bodyA c a54 [x0] h =
  (op h (.box false (.c x0))).bind fun p1 =>
  (op p1.2 (.box true (.c (.agg [1, 1, 1] [nilD, nilD, nilD])))).bind fun p2 =>
  (op p2.2 (.ld true 3 (.c p1.1))).bind fun p3 =>
  (c.call 68 [p3.1] p3.2).bind fun p4 =>
  (op p4.2 (.un .not (.c p4.1))).bind fun p5 =>
  cnd p5.1
    ((op p5.2 (.build [1, 1, 1] [nilD, nilD, nilD] [])).bind fun p6 =>
    (op p6.2 (.st 3 (.c p2.1) (.c p6.1))).bind fun p7 =>
    fin [.cell p2.1 true 3] p7.2)
    ((op p5.2 (.fa [1, 1, 1] 0 (.c p1.1))).bind fun p8 =>
    (op p8.2 (.ld false 1 (.c p8.1))).bind fun p9 =>
    (op p9.2 (.fa [1, 1, 1] 0 (.c p1.1))).bind fun p10 =>
    (op p10.2 (.ld false 1 (.c p10.1))).bind fun p11 =>
    (op p11.2 (.build [1, 1, 1] [nilD, nilD, nilD] [(0, (.c p9.1)), (1, (.c p11.1))])).bind fun p12 =>
    (op p12.2 (.st 3 (.c p2.1) (.c p12.1))).bind fun p13 =>
    fin [.cell p2.1 true 3] p13.2) := by kernel_rfl
/-! newsreel/newsreelref10.Sync -/
theorem ok55 : a55.ok = true := by kernel_rfl
theorem e55 (c : Cx) (x0 : D) (h : Hp) : bodyA c a55 [x0] h =
  (op h (.box false (.c x0))).bind fun p1 =>
  (op p1.2 (.box true (.c (.agg [1, 1, 1] [nilD, nilD, nilD])))).bind fun p2 =>
  (op p2.2 (.ld true 3 (.c p1.1))).bind fun p3 =>
  (c.call 66 [p3.1] p3.2).bind fun p4 =>
  (op p4.2 (.un .not (.c p4.1))).bind fun p5 =>
  cnd p5.1
    ((op p5.2 (.build [1, 1, 1] [nilD, nilD, nilD] [])).bind fun p6 =>
    (op p6.2 (.st 3 (.c p2.1) (.c p6.1))).bind fun p7 =>
    fin [.cell p2.1 true 3] p7.2)
    ((op p5.2 (.fa [1, 1, 1] 0 (.c p1.1))).bind fun p8 =>
    (op p8.2 (.ld false 1 (.c p8.1))).bind fun p9 =>
    (op p9.2 (.fa [1, 1, 1] 0 (.c p1.1))).bind fun p10 =>
    (op p10.2 (.ld false 1 (.c p10.1))).bind fun p11 =>
    (op p11.2 (.build [1, 1, 1] [nilD, nilD, nilD] [(0, (.c p9.1)), (1, (.c p11.1))])).bind fun p12 =>
    (op p12.2 (.st 3 (.c p2.1) (.c p12.1))).bind fun p13 =>
    fin [.cell p2.1 true 3] p13.2) := by kernel_rfl
/-! newsreel/newsreelref10.Crash -/
theorem ok56 : a56.ok = true := by kernel_rfl
noncomputable def j56_1 (c : Cx) (v1 v2 v4 : D) (h : Hp) : Option (List D × Hp) := cpsA c.call c.lp (codeA [1, 1, 1] a56.body) ⟨[und, v1, v2, und, v4, und, und, und, und, und, und, und, und, und, und, und, und, und, und, und, und, und, und, und, und, und, und, und, und, und, und, und, und, und], h⟩ (finA a56)
noncomputable def j56_2 (c : Cx) (v1 v2 v4 : D) (h : Hp) : Option (List D × Hp) := cpsA c.call c.lp (codeA [1, 1, 1, 1] a56.body) ⟨[und, v1, v2, und, v4, und, und, und, und, und, und, und, und, und, und, und, und, und, und, und, und, und, und, und, und, und, und, und, und, und, und, und, und, und], h⟩ (finA a56)
theorem j56_2_eq (c : Cx) (v1 v2 v4 : D) (h : Hp) : j56_2 c v1 v2 v4 h =
  (op h (.fa [1, 1, 1] 1 (.c v2))).bind fun p8 =>
  (op h (.ld false 1 (.c p8.1))).bind fun p9 =>
  (op h (.fa [1, 1, 1] 2 (.c v2))).bind fun p10 =>
  (op h (.ld false 1 (.c p10.1))).bind fun p11 =>
  (op h (.slc 4 (.c p11.1) none (some (.c v1)) none)).bind fun p12 =>
  (c.call 70 [p9.1, p12.1] h).bind fun p13 =>
  (op p13.2 (.ext (.c p13.1) 0)).bind fun p14 =>
  (op p13.2 (.ext (.c p13.1) 1)).bind fun p15 =>
  (op p13.2 (.build [1, 1, 1] [nilD, nilD, nilD] [(0, (.c p14.1)), (1, (.c p14.1))])).bind fun p16 =>
  (op p16.2 (.st 3 (.c v4) (.c p16.1))).bind fun p17 =>
  fin [.cell v4 true 3] p17.2 := by kernel_rfl
theorem j56_1_eq (c : Cx) (v1 v2 v4 : D) (h : Hp) : j56_1 c v1 v2 v4 h =
  (op h (.fa [1, 1, 1] 2 (.c v2))).bind fun p18 =>
  (op p18.2 (.ld false 1 (.c p18.1))).bind fun p19 =>
  (op p19.2 (.len false (.c p19.1))).bind fun p20 =>
  (op p20.2 (.bin .gtr (.c v1) (.c p20.1))).bind fun p21 =>
  cnd p21.1
    ((op p21.2 (.fa [1, 1, 1] 2 (.c v2))).bind fun p22 =>
    (op p22.2 (.ld false 1 (.c p22.1))).bind fun p23 =>
    (op p23.2 (.len false (.c p23.1))).bind fun p24 =>
    j56_2 c p24.1 v2 v4 p24.2)
    (j56_2 c v1 v2 v4 p21.2) := by kernel_rfl
theorem e56 (c : Cx) (x0 x1 : D) (h : Hp) : bodyA c a56 [x0, x1] h =
  (op h (.box false (.c x0))).bind fun p1 =>
  (op p1.2 (.box true (.c (.agg [1, 1, 1] [nilD, nilD, nilD])))).bind fun p2 =>
  (op p2.2 (.ld true 3 (.c p1.1))).bind fun p3 =>
  (c.call 66 [p3.1] p3.2).bind fun p4 =>
  (op p4.2 (.un .not (.c p4.1))).bind fun p5 =>
  cnd p5.1
    ((op p5.2 (.build [1, 1, 1] [nilD, nilD, nilD] [])).bind fun p6 =>
    (op p6.2 (.st 3 (.c p2.1) (.c p6.1))).bind fun p7 =>
    fin [.cell p2.1 true 3] p7.2)
    ((op p5.2 (.bin .lss (.c x1) (.c (.lit (.int .i64 0))))).bind fun p25 =>
    cnd p25.1
      (j56_1 c (.lit (.int .i64 0)) p1.1 p2.1 p25.2)
      (j56_1 c x1 p1.1 p2.1 p25.2)) := by kernel_rfl
/-! newsreel/newsreelref09.Crash -/
theorem ok57 : a57.ok = true := by kernel_rfl
noncomputable def l57_1 (c : Cx) (v1 v2 v4 v6 v7 : D) (h : Hp) : Option (List D × Hp) := c.lp 214 (codeA [1, 1, 1, 0, 1, 0] a57.body).bodyOf (blockK 0 (seqK (cpsA c.call c.lp (codeA [1, 1, 1, 1] a57.body)) (finA a57))) ⟨[und, v1, v2, und, v4, und, v6, v7, und, und, und, und, und, und, und, und, und, und, und, und, und, und, und, und, und, und, und, und, und, und, und, und, und, und, und, und, und, und, und, und, und, und, und, und, und, und, und, und, und], h⟩
theorem l57_1_eq (c : Cx) (v1 v2 v4 v6 v7 : D) (h : Hp) : l57_1 c v1 v2 v4 v6 v7 h =
  (op h (.fa [1, 1, 1] 2 (.c v2))).bind fun p9 =>
  (op p9.2 (.ld false 1 (.c p9.1))).bind fun p10 =>
  (op p10.2 (.len false (.c p10.1))).bind fun p11 =>
  (op p11.2 (.bin .lss (.c v7) (.c p11.1))).bind fun p12 =>
  cnd p12.1
    ((op p12.2 (.len false (.c v1))).bind fun p13 =>
    (op p13.2 (.bin .lss (.c v7) (.c p13.1))).bind fun p14 =>
    (grd p14.1 true (op p14.2 (.mv (.c v1))) p14.2).bind fun p15 =>
    (grd p14.1 true (op p15.2 (.mv (.c v7))) p15.2).bind fun p16 =>
    (grd p14.1 true (op p16.2 (.ia 1 (.c p15.1) (.c p16.1))) p16.2).bind fun p17 =>
    (grd p14.1 true (op p17.2 (.ld false 1 (.c p17.1))) p17.2).bind fun p18 =>
    (op p18.2 (.pick (.c p14.1) (.c p18.1) (.c (.lit (.bool false))))).bind fun p19 =>
    cnd p19.1
      ((op p19.2 (.fa [1, 1, 1] 2 (.c v2))).bind fun p20 =>
      (op p20.2 (.ld false 1 (.c p20.1))).bind fun p21 =>
      (op p21.2 (.ia 2 (.c p21.1) (.c v7))).bind fun p22 =>
      (op p22.2 (.ld true 2 (.c p22.1))).bind fun p23 =>
      (op p23.2 (.bsl false 2 [(.agg [1, 1] [(.lit (.int .i64 0)), nilD])] [(0, (.c p23.1))])).bind fun p24 =>
      (op p24.2 (.app 2 4398046511104 (.c v6) (.c p24.1))).bind fun p25 =>
      (op p25.2 (.bin .add (.c v7) (.c (.lit (.int .i64 1))))).bind fun p26 =>
      l57_1 c v1 v2 v4 p25.1 p26.1 p26.2)
      ((op p19.2 (.bin .add (.c v7) (.c (.lit (.int .i64 1))))).bind fun p27 =>
      l57_1 c v1 v2 v4 v6 p27.1 p27.2))
    ((op p12.2 (.fa [1, 1, 1] 1 (.c v2))).bind fun p28 =>
    (op p28.2 (.ld false 1 (.c p28.1))).bind fun p29 =>
    (c.call 69 [p29.1, v6] p29.2).bind fun p30 =>
    (op p30.2 (.build [1, 1, 1] [nilD, nilD, nilD] [(0, (.c p30.1)), (1, (.c p30.1))])).bind fun p31 =>
    (op p30.2 (.fa [1, 1, 1] 2 (.c v2))).bind fun p32 =>
    (op p30.2 (.ld false 1 (.c p32.1))).bind fun p33 =>
    (op p30.2 (.len false (.c p33.1))).bind fun p34 =>
    (op p30.2 (.st 3 (.c v4) (.c p31.1))).bind fun p35 =>
    if ((sm p33.1 (op p30.2 (.ld false 1 (.c p32.1))) && (sm p33.1 (op p35.2 (.ld false 1 (.c p32.1))) && true)) && true) = true then
    fin [.cell v4 true 3, .v p34.1] p35.2
    else none) := loop_text (by kernel_rfl) (by kernel_rfl)
theorem e57 (c : Cx) (x0 x1 : D) (h : Hp) : bodyA c a57 [x0, x1] h =
  (op h (.box false (.c x0))).bind fun p1 =>
  (op p1.2 (.box true (.c (.agg [1, 1, 1] [nilD, nilD, nilD])))).bind fun p2 =>
  (op p2.2 (.ld true 3 (.c p1.1))).bind fun p3 =>
  (c.call 68 [p3.1] p3.2).bind fun p4 =>
  (op p4.2 (.un .not (.c p4.1))).bind fun p5 =>
  cnd p5.1
    ((op p5.2 (.build [1, 1, 1] [nilD, nilD, nilD] [])).bind fun p6 =>
    (op p6.2 (.st 3 (.c p2.1) (.c p6.1))).bind fun p7 =>
    fin [.cell p2.1 true 3, .v (.lit (.int .i64 0))] p7.2)
    ((op p5.2 (.bsl true 2 [] [])).bind fun p8 =>
    l57_1 c x1 p1.1 p2.1 p8.1 (.lit (.int .i64 0)) p8.2) := by kernel_rfl
/-! newsreel/dir.Find -/
theorem ok58 : a58.ok = true := by kernel_rfl
theorem e58 (c : Cx) (x0 x1 : D) (h : Hp) : bodyA c a58 [x0, x1] h =
  (op h (.box false (.c x0))).bind fun p1 =>
  (op p1.2 (.box false (.c x1))).bind fun p2 =>
  (op p2.2 (.fa [1, 1, 1] 0 (.c p1.1))).bind fun p3 =>
  (op p3.2 (.ld false 1 (.c p3.1))).bind fun p4 =>
  (op p4.2 (.mkf 72 0 [(.c p2.1)])).bind fun p5 =>
  (c.call 71 [p4.1, p5.1] p5.2).bind fun p6 =>
  (op p6.2 (.bin .lss (.c p6.1) (.c (.lit (.int .i64 0))))).bind fun p7 =>
  cnd p7.1
    (fin [.v (.lit (.int .i64 0)), .v (.lit (.bool false))] p7.2)
    ((op p7.2 (.fa [1, 1, 1] 0 (.c p1.1))).bind fun p8 =>
    (op p8.2 (.ld false 1 (.c p8.1))).bind fun p9 =>
    (op p9.2 (.ia 2 (.c p9.1) (.c p6.1))).bind fun p10 =>
    (op p10.2 (.fa [1, 1] 1 (.c p10.1))).bind fun p11 =>
    (op p11.2 (.ld false 1 (.c p11.1))).bind fun p12 =>
    fin [.v p12.1, .v (.lit (.bool true))] p12.2) := by kernel_rfl
/-! newsreel/dir.Do -/
theorem ok59 : a59.ok = true := by kernel_rfl
theorem e59 (c : Cx) (x0 x1 : D) (h : Hp) : bodyA c a59 [x0, x1] h =
  (op h (.box false (.c x0))).bind fun p1 =>
  (op p1.2 (.box false (.c x1))).bind fun p2 =>
  (op p2.2 (.box true (.c (.agg [1, 1, 1] [nilD, nilD, nilD])))).bind fun p3 =>
  (op p3.2 (.ld true 3 (.c p1.1))).bind fun p4 =>
  (c.call 63 [p4.1] p4.2).bind fun p5 =>
  (op p5.2 (.un .not (.c p5.1))).bind fun p6 =>
  cnd p6.1
    ((op p6.2 (.build [1, 1, 1] [nilD, nilD, nilD] [])).bind fun p7 =>
    (op p7.2 (.st 3 (.c p3.1) (.c p7.1))).bind fun p8 =>
    fin [.cell p3.1 true 3, .v (.lit (.int .i64 10))] p8.2)
    ((op p6.2 (.fa [1, 1, 1] 0 (.c p1.1))).bind fun p9 =>
    (op p9.2 (.ld false 1 (.c p9.1))).bind fun p10 =>
    (op p10.2 (.ld true 4 (.c p2.1))).bind fun p11 =>
    (c.call 73 [p10.1, p11.1] p11.2).bind fun p12 =>
    (op p12.2 (.ext (.c p12.1) 0)).bind fun p13 =>
    (op p13.2 (.ext (.c p12.1) 1)).bind fun p14 =>
    (op p14.2 (.bin .neq (.c p14.1) (.c (.lit (.int .i64 0))))).bind fun p15 =>
    cnd p15.1
      ((op p15.2 (.build [1, 1, 1] [nilD, nilD, nilD] [])).bind fun p16 =>
      (op p16.2 (.st 3 (.c p3.1) (.c p16.1))).bind fun p17 =>
      fin [.cell p3.1 true 3, .v p14.1] p17.2)
      ((op p15.2 (.fa [1, 1, 1] 1 (.c p1.1))).bind fun p18 =>
      (op p15.2 (.ld false 1 (.c p18.1))).bind fun p19 =>
      (c.call 64 [p19.1] p15.2).bind fun p20 =>
      (op p20.2 (.fa [1, 1, 1] 2 (.c p1.1))).bind fun p21 =>
      (op p20.2 (.ld false 1 (.c p21.1))).bind fun p22 =>
      (c.call 74 [p22.1] p20.2).bind fun p23 =>
      (op p23.2 (.ld true 4 (.c p2.1))).bind fun p24 =>
      (op p23.2 (.bsl false 4 [(.agg [1, 1, 1, 1] [(.lit (.int .i64 0)), (.lit (.string ⟨#[]⟩)), (.lit (.string ⟨#[]⟩)), (.lit (.int .i64 0))])] [(0, (.c p24.1))])).bind fun p25 =>
      (op p23.2 (.app 4 2932031007402 (.c p23.1) (.c p25.1))).bind fun p26 =>
      (op p26.2 (.build [1, 1, 1] [nilD, nilD, nilD] [(0, (.c p13.1)), (1, (.c p20.1)), (2, (.c p26.1))])).bind fun p27 =>
      (op p26.2 (.st 3 (.c p3.1) (.c p27.1))).bind fun p28 =>
      if ((sm p24.1 (op p15.2 (.ld true 4 (.c p2.1))) && (sm p24.1 (op p20.2 (.ld true 4 (.c p2.1))) && (sm p24.1 (op p23.2 (.ld true 4 (.c p2.1))) && (true && (true && true))))) && ((sm p22.1 (op p15.2 (.ld false 1 (.c p21.1))) && (sm p22.1 (op p20.2 (.ld false 1 (.c p21.1))) && (true && (true && (true && true))))) && true)) = true then
      fin [.cell p3.1 true 3, .v (.lit (.int .i64 0))] p28.2
      else none)) := by kernel_rfl
/-! newsreel/block.Right -/
theorem ok60 : a60.ok = true := by kernel_rfl
theorem e60 (c : Cx) (x0 : D) (h : Hp) : bodyA c a60 [x0] h =
  (op h (.box false (.c x0))).bind fun p1 =>
  (op p1.2 (.fa [1, 1] 0 (.c p1.1))).bind fun p2 =>
  (op p2.2 (.ld false 1 (.c p2.1))).bind fun p3 =>
  (op p3.2 (.bin .lss (.c p3.1) (.c (.lit (.int .i64 0))))).bind fun p4 =>
  (grd p4.1 false (op p4.2 (.fa [1, 1] 0 (.c p1.1))) p4.2).bind fun p5 =>
  (grd p4.1 false (op p5.2 (.ld false 1 (.c p5.1))) p5.2).bind fun p6 =>
  (grd p4.1 false (op p6.2 (.bin .geq (.c p6.1) (.c (.lit (.int .i64 65536))))) p6.2).bind fun p7 =>
  (op p7.2 (.pick (.c p4.1) (.c (.lit (.bool true))) (.c p7.1))).bind fun p8 =>
  (grd p8.1 false (op p8.2 (.fa [1, 1] 1 (.c p1.1))) p8.2).bind fun p9 =>
  (grd p8.1 false (op p9.2 (.ld false 1 (.c p9.1))) p9.2).bind fun p10 =>
  (grd p8.1 false (op p10.2 (.len false (.c p10.1))) p10.2).bind fun p11 =>
  (grd p8.1 false (op p11.2 (.bin .eql (.c p11.1) (.c (.lit (.int .i64 0))))) p11.2).bind fun p12 =>
  (op p12.2 (.pick (.c p8.1) (.c (.lit (.bool true))) (.c p12.1))).bind fun p13 =>
  cnd p13.1
    (fin [.v (.lit (.bool false))] p13.2)
    ((op p13.2 (.fa [1, 1] 1 (.c p1.1))).bind fun p14 =>
    (op p14.2 (.ld false 1 (.c p14.1))).bind fun p15 =>
    (op p15.2 (.len false (.c p15.1))).bind fun p16 =>
    (op p16.2 (.fa [1, 1] 0 (.c p1.1))).bind fun p17 =>
    (op p17.2 (.ld false 1 (.c p17.1))).bind fun p18 =>
    (op p18.2 (.bin .rem (.c p18.1) (.c (.lit (.int .i64 16))))).bind fun p19 =>
    (op p19.2 (.bin .sub (.c (.lit (.int .i64 16))) (.c p19.1))).bind fun p20 =>
    (op p20.2 (.bin .leq (.c p16.1) (.c p20.1))).bind fun p21 =>
    fin [.v p21.1] p21.2) := by kernel_rfl
/-! newsreel/file.Right -/
theorem ok61 : a61.ok = true := by kernel_rfl
theorem e61 (c : Cx) (x0 : D) (h : Hp) : bodyA c a61 [x0] h =
  (op h (.box false (.c x0))).bind fun p1 =>
  (op p1.2 (.fa [1, 1, 1] 1 (.c p1.1))).bind fun p2 =>
  (op p2.2 (.ld false 1 (.c p2.1))).bind fun p3 =>
  (op p3.2 (.len false (.c p3.1))).bind fun p4 =>
  (op p4.2 (.bin .gtr (.c p4.1) (.c (.lit (.int .i64 65536))))).bind fun p5 =>
  (grd p5.1 false (op p5.2 (.fa [1, 1, 1] 2 (.c p1.1))) p5.2).bind fun p6 =>
  (grd p5.1 false (op p6.2 (.ld false 1 (.c p6.1))) p6.2).bind fun p7 =>
  (grd p5.1 false (c.call 75 [p7.1, (.fn 76 0 [])] p7.2) p7.2).bind fun p8 =>
  (op p8.2 (.pick (.c p5.1) (.c (.lit (.bool true))) (.c p8.1))).bind fun p9 =>
  cnd p9.1
    (fin [.v (.lit (.bool false))] p9.2)
    ((op p9.2 (.fa [1, 1, 1] 0 (.c p1.1))).bind fun p10 =>
    (op p9.2 (.ld false 1 (.c p10.1))).bind fun p11 =>
    (op p9.2 (.fa [1, 1, 1] 1 (.c p1.1))).bind fun p12 =>
    (op p9.2 (.ld false 1 (.c p12.1))).bind fun p13 =>
    (op p9.2 (.fa [1, 1, 1] 2 (.c p1.1))).bind fun p14 =>
    (op p9.2 (.ld false 1 (.c p14.1))).bind fun p15 =>
    (c.call 45 [p13.1, p15.1] p9.2).bind fun p16 =>
    (c.call 77 [p11.1, p16.1] p16.2).bind fun p17 =>
    if ((sm p11.1 (op p9.2 (.ld false 1 (.c p10.1))) && (sm p11.1 (op p16.2 (.ld false 1 (.c p10.1))) && true)) && true) = true then
    fin [.v p17.1] p16.2
    else none) := by kernel_rfl
/-! newsreel/file.still -/
theorem ok62 : a62.ok = true := by kernel_rfl
theorem e62 (c : Cx) (x0 : D) (h : Hp) : bodyA c a62 [x0] h =
  (op h (.box true (.c (.agg [1, 1, 1] [nilD, nilD, nilD])))).bind fun p1 =>
  (c.call 39 [x0] p1.2).bind fun p2 =>
  (c.call 39 [x0] p2.2).bind fun p3 =>
  (op p3.2 (.build [1, 1, 1] [nilD, nilD, nilD] [(0, (.c p2.1)), (1, (.c p3.1))])).bind fun p4 =>
  (op p4.2 (.st 3 (.c p1.1) (.c p4.1))).bind fun p5 =>
  fin [.cell p1.1 true 3] p5.2 := by kernel_rfl
/-! newsreel/dir.Right -/
theorem ok63 : a63.ok = true := by kernel_rfl
theorem e63 (c : Cx) (x0 : D) (h : Hp) : bodyA c a63 [x0] h =
  (op h (.box false (.c x0))).bind fun p1 =>
  (op p1.2 (.fa [1, 1, 1] 1 (.c p1.1))).bind fun p2 =>
  (op p2.2 (.ld false 1 (.c p2.1))).bind fun p3 =>
  (c.call 78 [p3.1] p3.2).bind fun p4 =>
  (op p4.2 (.un .not (.c p4.1))).bind fun p5 =>
  cnd p5.1
    (fin [.v (.lit (.bool false))] p5.2)
    ((op p5.2 (.fa [1, 1, 1] 1 (.c p1.1))).bind fun p6 =>
    (op p6.2 (.ld false 1 (.c p6.1))).bind fun p7 =>
    (op p7.2 (.fa [1, 1, 1] 2 (.c p1.1))).bind fun p8 =>
    (op p8.2 (.ld false 1 (.c p8.1))).bind fun p9 =>
    (c.call 65 [p7.1, p9.1] p9.2).bind fun p10 =>
    (op p10.2 (.ext (.c p10.1) 0)).bind fun p11 =>
    (op p11.2 (.ext (.c p10.1) 1)).bind fun p12 =>
    (grd p12.1 true (op p12.2 (.mv (.c p11.1))) p12.2).bind fun p13 =>
    (grd p12.1 true (op p13.2 (.fa [1, 1, 1] 0 (.c p1.1))) p13.2).bind fun p14 =>
    (grd p12.1 true (op p14.2 (.ld false 1 (.c p14.1))) p14.2).bind fun p15 =>
    (grd p12.1 true (c.call 79 [p13.1, p15.1] p15.2) p15.2).bind fun p16 =>
    (op p16.2 (.pick (.c p12.1) (.c p16.1) (.c (.lit (.bool false))))).bind fun p17 =>
    fin [.v p17.1] p17.2) := by kernel_rfl
/-! slices.Clone[[]newsreel/api.Entry,newsreel/api.Entry] -/
theorem ok64 : a64.ok = true := by kernel_rfl
theorem e64 (c : Cx) (x0 : D) (h : Hp) : bodyA c a64 [x0] h =
  (op h (.eq false .nilS (.c x0) (.c nilD))).bind fun p1 =>
  cnd p1.1
    (fin [.v nilD] p1.2)
    ((op p1.2 (.bsl true 2 [] [])).bind fun p2 =>
    (op p2.2 (.app 2 5864062014805 (.c p2.1) (.c x0))).bind fun p3 =>
    fin [.v p3.1] p3.2) := by kernel_rfl
/-! newsreel/dir.all -/
theorem ok65 : a65.ok = true := by kernel_rfl
noncomputable def l65_1 (c : Cx) (v0 v10 v11 v12 : D) (h : Hp) : Option (List D × Hp) := c.lp 7169 (codeA [1, 0, 1, 0] a65.body).bodyOf (blockK 0 (seqK (cpsA c.call c.lp (codeA [1, 1] a65.body)) (finA a65))) ⟨[v0, und, und, und, und, und, und, und, und, und, v10, v11, v12, und, und, und, und, und, und, und, und, und, und, und, und, und, und], h⟩
theorem l65_1_eq (c : Cx) (v0 v10 v11 v12 : D) (h : Hp) : l65_1 c v0 v10 v11 v12 h =
  (op h (.bin .lss (.c v12) (.c v11))).bind fun p2 =>
  cnd p2.1
    ((op p2.2 (.ia 4 (.c v10) (.c v12))).bind fun p3 =>
    (op p3.2 (.ld true 4 (.c p3.1))).bind fun p4 =>
    (op p4.2 (.box true (.c (.agg [1, 1, 1, 1] [(.lit (.int .i64 0)), (.lit (.string ⟨#[]⟩)), (.lit (.string ⟨#[]⟩)), (.lit (.int .i64 0))])))).bind fun p5 =>
    (op p5.2 (.st 4 (.c p5.1) (.c p4.1))).bind fun p6 =>
    (op p6.2 (.ld true 4 (.c p5.1))).bind fun p7 =>
    (c.call 73 [v0, p7.1] p7.2).bind fun p8 =>
    (op p8.2 (.ext (.c p8.1) 0)).bind fun p9 =>
    (op p9.2 (.ext (.c p8.1) 1)).bind fun p10 =>
    (op p10.2 (.bin .neq (.c p10.1) (.c (.lit (.int .i64 0))))).bind fun p11 =>
    cnd p11.1
      (fin [.v nilD, .v (.lit (.bool false))] p11.2)
      ((op p11.2 (.bin .add (.c v12) (.c (.lit (.int .i64 1))))).bind fun p12 =>
      l65_1 c p9.1 v10 v11 p12.1 p12.2))
    (fin [.v v0, .v (.lit (.bool true))] p2.2) := loop_text (by kernel_rfl) (by kernel_rfl)
theorem e65 (c : Cx) (x0 x1 : D) (h : Hp) : bodyA c a65 [x0, x1] h =
  (op h (.len false (.c x1))).bind fun p1 =>
  l65_1 c x0 x1 p1.1 (.lit (.int .i64 0)) p1.2 := by kernel_rfl
/-! newsreel/newsreelref10.Right -/
theorem ok66 : a66.ok = true := by kernel_rfl
noncomputable def l66_1 (c : Cx) (v1 v3 : D) (h : Hp) : Option (List D × Hp) := c.lp 10 (codeA [1, 0, 1, 0] a66.body).bodyOf (blockK 0 (seqK (cpsA c.call c.lp (codeA [1, 1] a66.body)) (finA a66))) ⟨[und, v1, und, v3, und, und, und, und, und, und, und, und, und, und, und, und, und, und, und, und, und, und, und, und, und, und, und, und, und, und, und, und, und, und, und, und, und, und, und, und, und, und, und, und, und, und, und, und, und, und, und, und, und, und, und, und, und, und, und, und], h⟩
theorem l66_1_eq (c : Cx) (v1 v3 : D) (h : Hp) : l66_1 c v1 v3 h =
  (op h (.fa [1, 1, 1] 1 (.c v1))).bind fun p2 =>
  (op p2.2 (.ld false 1 (.c p2.1))).bind fun p3 =>
  (op p3.2 (.len false (.c p3.1))).bind fun p4 =>
  (op p4.2 (.bin .lss (.c v3) (.c p4.1))).bind fun p5 =>
  cnd p5.1
    ((op p5.2 (.fa [1, 1, 1] 1 (.c v1))).bind fun p6 =>
    (op p5.2 (.ld false 1 (.c p6.1))).bind fun p7 =>
    (op p5.2 (.ia 2 (.c p7.1) (.c v3))).bind fun p8 =>
    (op p5.2 (.fa [1, 1] 0 (.c p8.1))).bind fun p9 =>
    (op p5.2 (.ld false 1 (.c p9.1))).bind fun p10 =>
    (c.call 80 [p10.1] p5.2).bind fun p11 =>
    (op p5.2 (.un .not (.c p11.1))).bind fun p12 =>
    (grd p12.1 false (op p5.2 (.mv (.c v3))) p5.2).bind fun p13 =>
    (grd p12.1 false (op p5.2 (.bin .gtr (.c p13.1) (.c (.lit (.int .i64 0))))) p5.2).bind fun p14 =>
    (grd p12.1 false (op p5.2 (.mv (.c p14.1))) p5.2).bind fun p15 =>
    (grd p15.1 true (op p5.2 (.fa [1, 1, 1] 1 (.c v1))) p5.2).bind fun p16 =>
    (grd p15.1 true (op p5.2 (.ld false 1 (.c p16.1))) p5.2).bind fun p17 =>
    (grd p15.1 true (op p5.2 (.mv (.c v3))) p5.2).bind fun p18 =>
    (grd p15.1 true (op p5.2 (.bin .sub (.c p18.1) (.c (.lit (.int .i64 1))))) p5.2).bind fun p19 =>
    (grd p15.1 true (op p5.2 (.ia 2 (.c p17.1) (.c p19.1))) p5.2).bind fun p20 =>
    (grd p15.1 true (op p5.2 (.fa [1, 1] 0 (.c p20.1))) p5.2).bind fun p21 =>
    (grd p15.1 true (op p5.2 (.ld false 1 (.c p21.1))) p5.2).bind fun p22 =>
    (grd p15.1 true (op p5.2 (.fa [1, 1, 1] 1 (.c v1))) p5.2).bind fun p23 =>
    (grd p15.1 true (op p5.2 (.ld false 1 (.c p23.1))) p5.2).bind fun p24 =>
    (grd p15.1 true (op p5.2 (.mv (.c v3))) p5.2).bind fun p25 =>
    (grd p15.1 true (op p5.2 (.ia 2 (.c p24.1) (.c p25.1))) p5.2).bind fun p26 =>
    (grd p15.1 true (op p5.2 (.fa [1, 1] 0 (.c p26.1))) p5.2).bind fun p27 =>
    (grd p15.1 true (op p5.2 (.ld false 1 (.c p27.1))) p5.2).bind fun p28 =>
    (grd p15.1 true (op p5.2 (.bin .geq (.c p22.1) (.c p28.1))) p5.2).bind fun p29 =>
    (grd p12.1 false (op p5.2 (.pick (.c p15.1) (.c p29.1) (.c (.lit (.bool false))))) p5.2).bind fun p30 =>
    (op p5.2 (.pick (.c p12.1) (.c (.lit (.bool true))) (.c p30.1))).bind fun p31 =>
    cnd p31.1
      (fin [.v (.lit (.bool false))] p5.2)
      ((op p5.2 (.bin .add (.c v3) (.c (.lit (.int .i64 1))))).bind fun p32 =>
      l66_1 c v1 p32.1 p32.2))
    ((op p5.2 (.fa [1, 1, 1] 1 (.c v1))).bind fun p33 =>
    (op p33.2 (.ld false 1 (.c p33.1))).bind fun p34 =>
    (op p34.2 (.len false (.c p34.1))).bind fun p35 =>
    (op p35.2 (.bin .gtr (.c p35.1) (.c (.lit (.int .i64 100))))).bind fun p36 =>
    cnd p36.1
      (fin [.v (.lit (.bool false))] p36.2)
      ((op p36.2 (.fa [1, 1, 1] 1 (.c v1))).bind fun p37 =>
      (op p37.2 (.ld false 1 (.c p37.1))).bind fun p38 =>
      (op p38.2 (.fa [1, 1, 1] 2 (.c v1))).bind fun p39 =>
      (op p39.2 (.ld false 1 (.c p39.1))).bind fun p40 =>
      (c.call 70 [p38.1, p40.1] p40.2).bind fun p41 =>
      (op p41.2 (.ext (.c p41.1) 0)).bind fun p42 =>
      (op p42.2 (.ext (.c p41.1) 1)).bind fun p43 =>
      (grd p43.1 true (op p43.2 (.mv (.c p42.1))) p43.2).bind fun p44 =>
      (grd p43.1 true (op p44.2 (.fa [1, 1, 1] 0 (.c v1))) p44.2).bind fun p45 =>
      (grd p43.1 true (op p45.2 (.ld false 1 (.c p45.1))) p45.2).bind fun p46 =>
      (grd p43.1 true (c.call 81 [p44.1, p46.1] p46.2) p46.2).bind fun p47 =>
      (op p47.2 (.pick (.c p43.1) (.c p47.1) (.c (.lit (.bool false))))).bind fun p48 =>
      fin [.v p48.1] p48.2)) := loop_text (by kernel_rfl) (by kernel_rfl)
theorem e66 (c : Cx) (x0 : D) (h : Hp) : bodyA c a66 [x0] h =
  (op h (.box false (.c x0))).bind fun p1 =>
  l66_1 c p1.1 (.lit (.int .i64 0)) p1.2 := by kernel_rfl
/-! newsreel/newsreelref10.Done -/
theorem ok67 : a67.ok = true := by kernel_rfl
theorem e67 (c : Cx) (x0 x1 : D) (h : Hp) : bodyA c a67 [x0, x1] h =
  (op h (.box false (.c x1))).bind fun p1 =>
  (op p1.2 (.fa [1, 1, 1, 1] 1 (.c p1.1))).bind fun p2 =>
  (op p2.2 (.ld false 1 (.c p2.1))).bind fun p3 =>
  (c.call 40 [x0, p3.1] p3.2).bind fun p4 =>
  (op p4.2 (.fa [1, 1, 1, 1] 0 (.c p1.1))).bind fun p5 =>
  (op p5.2 (.ld false 1 (.c p5.1))).bind fun p6 =>
  (op p6.2 (.bin .lss (.c p6.1) (.c (.lit (.int .i64 1))))).bind fun p7 =>
  (grd p7.1 false (op p7.2 (.fa [1, 1, 1, 1] 0 (.c p1.1))) p7.2).bind fun p8 =>
  (grd p7.1 false (op p8.2 (.ld false 1 (.c p8.1))) p8.2).bind fun p9 =>
  (grd p7.1 false (op p9.2 (.bin .gtr (.c p9.1) (.c (.lit (.int .i64 3))))) p9.2).bind fun p10 =>
  (op p10.2 (.pick (.c p7.1) (.c (.lit (.bool true))) (.c p10.1))).bind fun p11 =>
  cnd p11.1
    (fin [.v nilD, .v (.lit (.int .i64 16))] p11.2)
    ((op p11.2 (.fa [1, 1, 1, 1] 0 (.c p1.1))).bind fun p12 =>
    (op p12.2 (.ld false 1 (.c p12.1))).bind fun p13 =>
    (op p13.2 (.bin .eql (.c p13.1) (.c (.lit (.int .i64 1))))).bind fun p14 =>
    cnd p14.1
      ((op p14.2 (.fa [1, 1, 1, 1] 1 (.c p1.1))).bind fun p15 =>
      (op p15.2 (.ld false 1 (.c p15.1))).bind fun p16 =>
      (c.call 80 [p16.1] p16.2).bind fun p17 =>
      (op p17.2 (.un .not (.c p17.1))).bind fun p18 =>
      cnd p18.1
        (fin [.v nilD, .v (.lit (.int .i64 1))] p18.2)
        ((op p18.2 (.bin .geq (.c p4.1) (.c (.lit (.int .i64 0))))).bind fun p19 =>
        cnd p19.1
          (fin [.v nilD, .v (.lit (.int .i64 6))] p19.2)
          ((op p19.2 (.len false (.c x0))).bind fun p20 =>
          (op p20.2 (.bin .geq (.c p20.1) (.c (.lit (.int .i64 100))))).bind fun p21 =>
          cnd p21.1
            (fin [.v nilD, .v (.lit (.int .i64 7))] p21.2)
            ((op p21.2 (.fa [1, 1, 1, 1] 1 (.c p1.1))).bind fun p22 =>
            (op p22.2 (.ld false 1 (.c p22.1))).bind fun p23 =>
            (op p23.2 (.fa [1, 1, 1, 1] 3 (.c p1.1))).bind fun p24 =>
            (op p24.2 (.ld false 1 (.c p24.1))).bind fun p25 =>
            (op p25.2 (.build [1, 1] [(.lit (.string ⟨#[]⟩)), (.lit (.int .i64 0))] [(0, (.c p23.1)), (1, (.c p25.1))])).bind fun p26 =>
            (c.call 82 [x0, p26.1] p26.2).bind fun p27 =>
            fin [.v p27.1, .v (.lit (.int .i64 0))] p27.2))))
      ((op p14.2 (.bin .lss (.c p4.1) (.c (.lit (.int .i64 0))))).bind fun p28 =>
      cnd p28.1
        (fin [.v nilD, .v (.lit (.int .i64 5))] p28.2)
        ((op p28.2 (.fa [1, 1, 1, 1] 0 (.c p1.1))).bind fun p29 =>
        (op p29.2 (.ld false 1 (.c p29.1))).bind fun p30 =>
        (op p30.2 (.bin .eql (.c p30.1) (.c (.lit (.int .i64 3))))).bind fun p31 =>
        cnd p31.1
          ((op p31.2 (.fa [1, 1, 1, 1] 1 (.c p1.1))).bind fun p32 =>
          (op p32.2 (.ld false 1 (.c p32.1))).bind fun p33 =>
          (c.call 83 [x0, p33.1] p33.2).bind fun p34 =>
          fin [.v p34.1, .v (.lit (.int .i64 0))] p34.2)
          ((op p31.2 (.fa [1, 1, 1, 1] 2 (.c p1.1))).bind fun p35 =>
          (op p35.2 (.ld false 1 (.c p35.1))).bind fun p36 =>
          (c.call 80 [p36.1] p36.2).bind fun p37 =>
          (op p37.2 (.un .not (.c p37.1))).bind fun p38 =>
          (grd p38.1 false (op p38.2 (.fa [1, 1, 1, 1] 2 (.c p1.1))) p38.2).bind fun p39 =>
          (grd p38.1 false (op p39.2 (.ld false 1 (.c p39.1))) p39.2).bind fun p40 =>
          (grd p38.1 false (op p40.2 (.fa [1, 1, 1, 1] 1 (.c p1.1))) p40.2).bind fun p41 =>
          (grd p38.1 false (op p41.2 (.ld false 1 (.c p41.1))) p41.2).bind fun p42 =>
          (grd p38.1 false (op p42.2 (.bin .eql (.c p40.1) (.c p42.1))) p42.2).bind fun p43 =>
          (op p43.2 (.pick (.c p38.1) (.c (.lit (.bool true))) (.c p43.1))).bind fun p44 =>
          cnd p44.1
            (fin [.v nilD, .v (.lit (.int .i64 1))] p44.2)
            ((op p44.2 (.fa [1, 1, 1, 1] 1 (.c p1.1))).bind fun p45 =>
            (op p44.2 (.ld false 1 (.c p45.1))).bind fun p46 =>
            (c.call 83 [x0, p46.1] p44.2).bind fun p47 =>
            (op p47.2 (.fa [1, 1, 1, 1] 2 (.c p1.1))).bind fun p48 =>
            (op p47.2 (.ld false 1 (.c p48.1))).bind fun p49 =>
            (c.call 83 [p47.1, p49.1] p47.2).bind fun p50 =>
            (op p50.2 (.fa [1, 1, 1, 1] 2 (.c p1.1))).bind fun p51 =>
            (op p50.2 (.ld false 1 (.c p51.1))).bind fun p52 =>
            (op p50.2 (.ia 2 (.c x0) (.c p4.1))).bind fun p53 =>
            (op p50.2 (.fa [1, 1] 1 (.c p53.1))).bind fun p54 =>
            (op p50.2 (.ld false 1 (.c p54.1))).bind fun p55 =>
            (op p50.2 (.build [1, 1] [(.lit (.string ⟨#[]⟩)), (.lit (.int .i64 0))] [(0, (.c p52.1)), (1, (.c p55.1))])).bind fun p56 =>
            (c.call 82 [p50.1, p56.1] p50.2).bind fun p57 =>
            if ((sm p55.1 (op p44.2 (.ld false 1 (.c p54.1))) && (sm p55.1 (op p47.2 (.ld false 1 (.c p54.1))) && (sm p55.1 (op p50.2 (.ld false 1 (.c p54.1))) && (true && true)))) && ((sm p52.1 (op p44.2 (.ld false 1 (.c p51.1))) && (sm p52.1 (op p47.2 (.ld false 1 (.c p51.1))) && (sm p52.1 (op p50.2 (.ld false 1 (.c p51.1))) && (true && true)))) && ((sm p49.1 (op p44.2 (.ld false 1 (.c p48.1))) && (sm p49.1 (op p47.2 (.ld false 1 (.c p48.1))) && (true && (true && true)))) && true))) = true then
            fin [.v p57.1, .v (.lit (.int .i64 0))] p57.2
            else none))))) := by kernel_rfl
/-! newsreel/newsreelref09.Right -/
theorem ok68 : a68.ok = true := by kernel_rfl
noncomputable def l68_1 (c : Cx) (v1 v3 : D) (h : Hp) : Option (List D × Hp) := c.lp 10 (codeA [1, 0, 1, 0] a68.body).bodyOf (blockK 0 (seqK (cpsA c.call c.lp (codeA [1, 1] a68.body)) (finA a68))) ⟨[und, v1, und, v3, und, und, und, und, und, und, und, und, und, und, und, und, und, und, und, und, und, und, und, und, und, und, und, und, und, und, und, und, und, und], h⟩
theorem l68_1_eq (c : Cx) (v1 v3 : D) (h : Hp) : l68_1 c v1 v3 h =
  (op h (.fa [1, 1, 1] 2 (.c v1))).bind fun p2 =>
  (op p2.2 (.ld false 1 (.c p2.1))).bind fun p3 =>
  (op p3.2 (.len false (.c p3.1))).bind fun p4 =>
  (op p4.2 (.bin .lss (.c v3) (.c p4.1))).bind fun p5 =>
  cnd p5.1
    ((op p5.2 (.fa [1, 1, 1] 2 (.c v1))).bind fun p6 =>
    (op p6.2 (.ld false 1 (.c p6.1))).bind fun p7 =>
    (op p7.2 (.ia 2 (.c p7.1) (.c v3))).bind fun p8 =>
    (op p8.2 (.ld true 2 (.c p8.1))).bind fun p9 =>
    (c.call 84 [p9.1] p9.2).bind fun p10 =>
    (op p10.2 (.un .not (.c p10.1))).bind fun p11 =>
    cnd p11.1
      (fin [.v (.lit (.bool false))] p11.2)
      ((op p11.2 (.bin .add (.c v3) (.c (.lit (.int .i64 1))))).bind fun p12 =>
      l68_1 c v1 p12.1 p12.2))
    ((op p5.2 (.fa [1, 1, 1] 1 (.c v1))).bind fun p13 =>
    (op p5.2 (.ld false 1 (.c p13.1))).bind fun p14 =>
    (op p5.2 (.len false (.c p14.1))).bind fun p15 =>
    (op p5.2 (.bin .leq (.c p15.1) (.c (.lit (.int .i64 65536))))).bind fun p16 =>
    (grd p16.1 true (op p5.2 (.fa [1, 1, 1] 0 (.c v1))) p5.2).bind fun p17 =>
    if wnt p16.1 true = true then
      (op p5.2 (.ld false 1 (.c p17.1))).bind fun p18 =>
      if wnt p16.1 true = true then
        (op p5.2 (.b2s (.c p18.1))).bind fun p19 =>
        (grd p16.1 true (op p5.2 (.fa [1, 1, 1] 1 (.c v1))) p5.2).bind fun p20 =>
        (grd p16.1 true (op p5.2 (.ld false 1 (.c p20.1))) p5.2).bind fun p21 =>
        (grd p16.1 true (op p5.2 (.fa [1, 1, 1] 2 (.c v1))) p5.2).bind fun p22 =>
        (grd p16.1 true (op p5.2 (.ld false 1 (.c p22.1))) p5.2).bind fun p23 =>
        if wnt p16.1 true = true then
          (c.call 69 [p21.1, p23.1] p5.2).bind fun p24 =>
          (grd p16.1 true (op p24.2 (.b2s (.c p24.1))) p24.2).bind fun p25 =>
          (grd p16.1 true (op p24.2 (.bin .eql (.c p19.1) (.c p25.1))) p24.2).bind fun p26 =>
          (op p24.2 (.pick (.c p16.1) (.c p26.1) (.c (.lit (.bool false))))).bind fun p27 =>
          if ((sm p19.1 (op p5.2 (.b2s (.c p18.1))) && (sm p19.1 (op p24.2 (.b2s (.c p18.1))) && true)) && ((sm p18.1 (op p5.2 (.ld false 1 (.c p17.1))) && (sm p18.1 (op p24.2 (.ld false 1 (.c p17.1))) && true)) && true)) = true then
          fin [.v p27.1] p24.2
          else none
        else
          (grd p16.1 true (op p5.2 (.b2s (.c und))) p5.2).bind fun p28 =>
          (grd p16.1 true (op p5.2 (.bin .eql (.c p19.1) (.c p28.1))) p5.2).bind fun p29 =>
          (op p5.2 (.pick (.c p16.1) (.c p29.1) (.c (.lit (.bool false))))).bind fun p30 =>
          if ((sm p19.1 (op p5.2 (.b2s (.c p18.1))) && (sm p19.1 (op p5.2 (.b2s (.c p18.1))) && true)) && ((sm p18.1 (op p5.2 (.ld false 1 (.c p17.1))) && (sm p18.1 (op p5.2 (.ld false 1 (.c p17.1))) && true)) && true)) = true then
          fin [.v p30.1] p5.2
          else none
      else
        (grd p16.1 true (op p5.2 (.fa [1, 1, 1] 1 (.c v1))) p5.2).bind fun p31 =>
        (grd p16.1 true (op p5.2 (.ld false 1 (.c p31.1))) p5.2).bind fun p32 =>
        (grd p16.1 true (op p5.2 (.fa [1, 1, 1] 2 (.c v1))) p5.2).bind fun p33 =>
        (grd p16.1 true (op p5.2 (.ld false 1 (.c p33.1))) p5.2).bind fun p34 =>
        if wnt p16.1 true = true then
          (c.call 69 [p32.1, p34.1] p5.2).bind fun p35 =>
          (grd p16.1 true (op p35.2 (.b2s (.c p35.1))) p35.2).bind fun p36 =>
          (grd p16.1 true (op p35.2 (.bin .eql (.c und) (.c p36.1))) p35.2).bind fun p37 =>
          (op p35.2 (.pick (.c p16.1) (.c p37.1) (.c (.lit (.bool false))))).bind fun p38 =>
          if ((sm p18.1 (op p5.2 (.ld false 1 (.c p17.1))) && (sm p18.1 (op p35.2 (.ld false 1 (.c p17.1))) && true)) && true) = true then
          fin [.v p38.1] p35.2
          else none
        else
          (grd p16.1 true (op p5.2 (.b2s (.c und))) p5.2).bind fun p39 =>
          (grd p16.1 true (op p5.2 (.bin .eql (.c und) (.c p39.1))) p5.2).bind fun p40 =>
          (op p5.2 (.pick (.c p16.1) (.c p40.1) (.c (.lit (.bool false))))).bind fun p41 =>
          if ((sm p18.1 (op p5.2 (.ld false 1 (.c p17.1))) && (sm p18.1 (op p5.2 (.ld false 1 (.c p17.1))) && true)) && true) = true then
          fin [.v p41.1] p5.2
          else none
    else
      if wnt p16.1 true = true then
        (op p5.2 (.b2s (.c und))).bind fun p42 =>
        (grd p16.1 true (op p5.2 (.fa [1, 1, 1] 1 (.c v1))) p5.2).bind fun p43 =>
        (grd p16.1 true (op p5.2 (.ld false 1 (.c p43.1))) p5.2).bind fun p44 =>
        (grd p16.1 true (op p5.2 (.fa [1, 1, 1] 2 (.c v1))) p5.2).bind fun p45 =>
        (grd p16.1 true (op p5.2 (.ld false 1 (.c p45.1))) p5.2).bind fun p46 =>
        if wnt p16.1 true = true then
          (c.call 69 [p44.1, p46.1] p5.2).bind fun p47 =>
          (grd p16.1 true (op p47.2 (.b2s (.c p47.1))) p47.2).bind fun p48 =>
          (grd p16.1 true (op p47.2 (.bin .eql (.c p42.1) (.c p48.1))) p47.2).bind fun p49 =>
          (op p47.2 (.pick (.c p16.1) (.c p49.1) (.c (.lit (.bool false))))).bind fun p50 =>
          if ((sm p42.1 (op p5.2 (.b2s (.c und))) && (sm p42.1 (op p47.2 (.b2s (.c und))) && true)) && true) = true then
          fin [.v p50.1] p47.2
          else none
        else
          (grd p16.1 true (op p5.2 (.b2s (.c und))) p5.2).bind fun p51 =>
          (grd p16.1 true (op p5.2 (.bin .eql (.c p42.1) (.c p51.1))) p5.2).bind fun p52 =>
          (op p5.2 (.pick (.c p16.1) (.c p52.1) (.c (.lit (.bool false))))).bind fun p53 =>
          if ((sm p42.1 (op p5.2 (.b2s (.c und))) && (sm p42.1 (op p5.2 (.b2s (.c und))) && true)) && true) = true then
          fin [.v p53.1] p5.2
          else none
      else
        (grd p16.1 true (op p5.2 (.fa [1, 1, 1] 1 (.c v1))) p5.2).bind fun p54 =>
        (grd p16.1 true (op p5.2 (.ld false 1 (.c p54.1))) p5.2).bind fun p55 =>
        (grd p16.1 true (op p5.2 (.fa [1, 1, 1] 2 (.c v1))) p5.2).bind fun p56 =>
        (grd p16.1 true (op p5.2 (.ld false 1 (.c p56.1))) p5.2).bind fun p57 =>
        if wnt p16.1 true = true then
          (c.call 69 [p55.1, p57.1] p5.2).bind fun p58 =>
          (grd p16.1 true (op p58.2 (.b2s (.c p58.1))) p58.2).bind fun p59 =>
          (grd p16.1 true (op p58.2 (.bin .eql (.c und) (.c p59.1))) p58.2).bind fun p60 =>
          (op p58.2 (.pick (.c p16.1) (.c p60.1) (.c (.lit (.bool false))))).bind fun p61 =>
          fin [.v p61.1] p58.2
        else
          (grd p16.1 true (op p5.2 (.b2s (.c und))) p5.2).bind fun p62 =>
          (grd p16.1 true (op p5.2 (.bin .eql (.c und) (.c p62.1))) p5.2).bind fun p63 =>
          (op p5.2 (.pick (.c p16.1) (.c p63.1) (.c (.lit (.bool false))))).bind fun p64 =>
          fin [.v p64.1] p5.2) := loop_text (by kernel_rfl) (by kernel_rfl)
theorem e68 (c : Cx) (x0 : D) (h : Hp) : bodyA c a68 [x0] h =
  (op h (.box false (.c x0))).bind fun p1 =>
  l68_1 c p1.1 (.lit (.int .i64 0)) p1.2 := by kernel_rfl
/-! newsreel/newsreelref08.Lay -/
theorem ok69 : a69.ok = true := by kernel_rfl
noncomputable def l69_1 (c : Cx) (v1 v5 v6 : D) (h : Hp) : Option (List D × Hp) := c.lp 98 (codeA [1, 1, 0, 1, 0] a69.body).bodyOf (blockK 0 (seqK (cpsA c.call c.lp (codeA [1, 1, 1] a69.body)) (finA a69))) ⟨[und, v1, und, und, und, v5, v6, und, und, und, und, und, und, und, und, und, und, und, und, und, und, und, und, und, und, und, und, und, und, und, und, und, und, und, und, und, und, und, und, und, und, und, und, und, und, und, und, und, und, und, und, und, und, und, und, und, und, und, und, und, und, und, und, und], h⟩
noncomputable def l69_2 (c : Cx) (v1 v5 v6 v7 : D) (h : Hp) : Option (List D × Hp) := c.lp 226 (codeA [1, 1, 0, 1, 0, 0, 1, 0, 0, 1, 1, 0] a69.body).bodyOf (blockK 2 (blockK 1 (seqK (cpsA c.call c.lp (codeA [1, 1, 0, 1, 0, 0, 1, 1] a69.body)) (againK c.lp 98 (codeA [1, 1, 0, 1, 0] a69.body).bodyOf (blockK 0 (seqK (cpsA c.call c.lp (codeA [1, 1, 1] a69.body)) (finA a69))))))) ⟨[und, v1, und, und, und, v5, v6, v7, und, und, und, und, und, und, und, und, und, und, und, und, und, und, und, und, und, und, und, und, und, und, und, und, und, und, und, und, und, und, und, und, und, und, und, und, und, und, und, und, und, und, und, und, und, und, und, und, und, und, und, und, und, und, und, und], h⟩
noncomputable def l69_3 (c : Cx) (v1 v5 v6 v7 : D) (h : Hp) : Option (List D × Hp) := c.lp 226 (codeA [1, 1, 0, 1, 0, 0, 1, 0, 0, 1, 1, 0, 0, 1, 0, 0, 0, 0] a69.body).bodyOf (blockK 4 (seqK (cpsA c.call c.lp (codeA [1, 1, 0, 1, 0, 0, 1, 0, 0, 1, 1, 0, 0, 1, 0, 0, 1] a69.body)) (blockK 3 (seqK (cpsA c.call c.lp (codeA [1, 1, 0, 1, 0, 0, 1, 0, 0, 1, 1, 0, 0, 1, 1] a69.body)) (againK c.lp 226 (codeA [1, 1, 0, 1, 0, 0, 1, 0, 0, 1, 1, 0] a69.body).bodyOf (blockK 2 (blockK 1 (seqK (cpsA c.call c.lp (codeA [1, 1, 0, 1, 0, 0, 1, 1] a69.body)) (againK c.lp 98 (codeA [1, 1, 0, 1, 0] a69.body).bodyOf (blockK 0 (seqK (cpsA c.call c.lp (codeA [1, 1, 1] a69.body)) (finA a69)))))))))))) ⟨[und, v1, und, und, und, v5, v6, v7, und, und, und, und, und, und, und, und, und, und, und, und, und, und, und, und, und, und, und, und, und, und, und, und, und, und, und, und, und, und, und, und, und, und, und, und, und, und, und, und, und, und, und, und, und, und, und, und, und, und, und, und, und, und, und, und], h⟩
theorem l69_3_eq (c : Cx) (v1 v5 v6 v7 : D) (h : Hp) : l69_3 c v1 v5 v6 v7 h =
  (op h (.len false (.c v5))).bind fun p15 =>
  (op p15.2 (.ia 2 (.c v1) (.c v6))).bind fun p16 =>
  (op p16.2 (.fa [1, 1] 0 (.c p16.1))).bind fun p17 =>
  (op p17.2 (.ld false 1 (.c p17.1))).bind fun p18 =>
  (op p18.2 (.bin .add (.c p18.1) (.c v7))).bind fun p19 =>
  (op p19.2 (.bin .leq (.c p15.1) (.c p19.1))).bind fun p20 =>
  cnd p20.1
    ((op p20.2 (.bsl false 1 [(.lit (.int .u8 0))] [(0, (.c (.lit (.int .u8 0))))])).bind fun p21 =>
    (op p21.2 (.app 1 140737488355328 (.c v5) (.c p21.1))).bind fun p22 =>
    l69_3 c v1 p22.1 v6 v7 p22.2)
    ((op p20.2 (.ia 2 (.c v1) (.c v6))).bind fun p23 =>
    (op p20.2 (.fa [1, 1] 0 (.c p23.1))).bind fun p24 =>
    (op p20.2 (.ld false 1 (.c p24.1))).bind fun p25 =>
    (op p20.2 (.bin .add (.c p25.1) (.c v7))).bind fun p26 =>
    (op p20.2 (.ia 2 (.c v1) (.c v6))).bind fun p27 =>
    (op p20.2 (.fa [1, 1] 1 (.c p27.1))).bind fun p28 =>
    (op p20.2 (.ld false 1 (.c p28.1))).bind fun p29 =>
    (op p20.2 (.ia 1 (.c p29.1) (.c v7))).bind fun p30 =>
    (op p20.2 (.ld false 1 (.c p30.1))).bind fun p31 =>
    (op p20.2 (.ia 1 (.c v5) (.c p26.1))).bind fun p32 =>
    (op p20.2 (.st 1 (.c p32.1) (.c p31.1))).bind fun p33 =>
    (op p33.2 (.bin .add (.c v7) (.c (.lit (.int .i64 1))))).bind fun p34 =>
    l69_2 c v1 v5 v6 p34.1 p34.2) := loop_text (by kernel_rfl) (by kernel_rfl)
theorem l69_2_eq (c : Cx) (v1 v5 v6 v7 : D) (h : Hp) : l69_2 c v1 v5 v6 v7 h =
  (op h (.ia 2 (.c v1) (.c v6))).bind fun p10 =>
  (op p10.2 (.fa [1, 1] 1 (.c p10.1))).bind fun p11 =>
  (op p11.2 (.ld false 1 (.c p11.1))).bind fun p12 =>
  (op p12.2 (.len false (.c p12.1))).bind fun p13 =>
  (op p13.2 (.bin .lss (.c v7) (.c p13.1))).bind fun p14 =>
  cnd p14.1
    (l69_3 c v1 v5 v6 v7 p14.2)
    ((op p14.2 (.bin .add (.c v6) (.c (.lit (.int .i64 1))))).bind fun p35 =>
    l69_1 c v1 v5 p35.1 p35.2) := loop_text (by kernel_rfl) (by kernel_rfl)
theorem l69_1_eq (c : Cx) (v1 v5 v6 : D) (h : Hp) : l69_1 c v1 v5 v6 h =
  (op h (.len false (.c v1))).bind fun p3 =>
  (op p3.2 (.bin .lss (.c v6) (.c p3.1))).bind fun p4 =>
  cnd p4.1
    ((op p4.2 (.ia 2 (.c v1) (.c v6))).bind fun p5 =>
    (op p5.2 (.ld true 2 (.c p5.1))).bind fun p6 =>
    (c.call 84 [p6.1] p6.2).bind fun p7 =>
    (op p7.2 (.un .not (.c p7.1))).bind fun p8 =>
    cnd p8.1
      ((op p8.2 (.bin .add (.c v6) (.c (.lit (.int .i64 1))))).bind fun p9 =>
      l69_1 c v1 v5 p9.1 p9.2)
      (l69_2 c v1 v5 v6 (.lit (.int .i64 0)) p8.2))
    (fin [.v v5] p4.2) := loop_text (by kernel_rfl) (by kernel_rfl)
theorem e69 (c : Cx) (x0 x1 : D) (h : Hp) : bodyA c a69 [x0, x1] h =
  (op h (.bsl true 1 [] [])).bind fun p1 =>
  (op p1.2 (.app 1 140737488355328 (.c p1.1) (.c x0))).bind fun p2 =>
  l69_1 c x1 p2.1 (.lit (.int .i64 0)) p2.2 := by kernel_rfl
/-! newsreel/newsreelref10.All -/
theorem ok70 : a70.ok = true := by kernel_rfl
noncomputable def l70_1 (c : Cx) (v0 v1 v6 : D) (h : Hp) : Option (List D × Hp) := c.lp 67 (codeA [1, 0, 1, 0] a70.body).bodyOf (blockK 0 (seqK (cpsA c.call c.lp (codeA [1, 1] a70.body)) (finA a70))) ⟨[v0, v1, und, und, und, und, v6, und, und, und, und, und, und, und, und, und, und, und, und, und, und, und, und, und, und, und, und, und], h⟩
theorem l70_1_eq (c : Cx) (v0 v1 v6 : D) (h : Hp) : l70_1 c v0 v1 v6 h =
  (op h (.len false (.c v1))).bind fun p1 =>
  (op p1.2 (.bin .lss (.c v6) (.c p1.1))).bind fun p2 =>
  cnd p2.1
    ((op p2.2 (.ia 4 (.c v1) (.c v6))).bind fun p3 =>
    (op p3.2 (.ld true 4 (.c p3.1))).bind fun p4 =>
    (c.call 67 [v0, p4.1] p4.2).bind fun p5 =>
    (op p5.2 (.ext (.c p5.1) 0)).bind fun p6 =>
    (op p6.2 (.ext (.c p5.1) 1)).bind fun p7 =>
    (op p7.2 (.bin .neq (.c p7.1) (.c (.lit (.int .i64 0))))).bind fun p8 =>
    cnd p8.1
      (fin [.v nilD, .v (.lit (.bool false))] p8.2)
      ((op p8.2 (.bin .add (.c v6) (.c (.lit (.int .i64 1))))).bind fun p9 =>
      l70_1 c p6.1 v1 p9.1 p9.2))
    (fin [.v v0, .v (.lit (.bool true))] p2.2) := loop_text (by kernel_rfl) (by kernel_rfl)
theorem e70 (c : Cx) (x0 x1 : D) (h : Hp) : bodyA c a70 [x0, x1] h =
  l70_1 c x0 x1 (.lit (.int .i64 0)) h := by kernel_rfl
/-! slices.IndexFunc[[]newsreel/api.Entry,newsreel/api.Entry] -/
theorem ok71 : a71.ok = true := by kernel_rfl
noncomputable def l71_1 (c : Cx) (v0 v1 v7 v8 : D) (h : Hp) : Option (List D × Hp) := c.lp 387 (codeA [1, 0, 1, 0] a71.body).bodyOf (blockK 0 (seqK (cpsA c.call c.lp (codeA [1, 1] a71.body)) (finA a71))) ⟨[v0, v1, und, und, und, und, und, v7, v8, und, und, und, und, und, und, und, und, und, und], h⟩
theorem l71_1_eq (c : Cx) (v0 v1 v7 v8 : D) (h : Hp) : l71_1 c v0 v1 v7 v8 h =
  (op h (.bin .lss (.c v8) (.c v7))).bind fun p2 =>
  cnd p2.1
    ((op p2.2 (.ia 2 (.c v0) (.c v8))).bind fun p3 =>
    (op p3.2 (.ld true 2 (.c p3.1))).bind fun p4 =>
    (callD c.call v1 [p4.1] p4.2).bind fun p5 =>
    cnd p5.1
      (fin [.v v8] p5.2)
      ((op p5.2 (.bin .add (.c v8) (.c (.lit (.int .i64 1))))).bind fun p6 =>
      l71_1 c v0 v1 v7 p6.1 p6.2))
    (fin [.v (.lit (.int .i64 (-1)))] p2.2) := loop_text (by kernel_rfl) (by kernel_rfl)
theorem e71 (c : Cx) (x0 x1 : D) (h : Hp) : bodyA c a71 [x0, x1] h =
  (op h (.len false (.c x0))).bind fun p1 =>
  l71_1 c x0 x1 p1.1 (.lit (.int .i64 0)) p1.2 := by kernel_rfl
/-! newsreel/dir.Find$1 -/
theorem ok72 : a72.ok = true := by kernel_rfl
theorem e72 (c : Cx) (x0 x1 : D) (h : Hp) : bodyA c a72 [x0, x1] h =
  (op h (.box false (.c x0))).bind fun p1 =>
  (op p1.2 (.fa [1, 1] 0 (.c p1.1))).bind fun p2 =>
  (op p2.2 (.ld false 1 (.c p2.1))).bind fun p3 =>
  (op p3.2 (.ld false 1 (.c x1))).bind fun p4 =>
  (op p4.2 (.bin .eql (.c p3.1) (.c p4.1))).bind fun p5 =>
  fin [.v p5.1] p5.2 := by kernel_rfl
/-! newsreel/dir.done -/
theorem ok73 : a73.ok = true := by kernel_rfl
theorem e73 (c : Cx) (x0 x1 : D) (h : Hp) : bodyA c a73 [x0, x1] h =
  (op h (.box false (.c x1))).bind fun p1 =>
  (op p1.2 (.fa [1, 1, 1, 1] 1 (.c p1.1))).bind fun p2 =>
  (op p2.2 (.ld false 1 (.c p2.1))).bind fun p3 =>
  (c.call 85 [x0, p3.1] p3.2).bind fun p4 =>
  (op p4.2 (.ext (.c p4.1) 0)).bind fun p5 =>
  (op p5.2 (.ext (.c p4.1) 1)).bind fun p6 =>
  (op p6.2 (.fa [1, 1, 1, 1] 0 (.c p1.1))).bind fun p7 =>
  (op p7.2 (.ld false 1 (.c p7.1))).bind fun p8 =>
  (op p8.2 (.bin .eql (.c p8.1) (.c (.lit (.int .i64 1))))).bind fun p9 =>
  cnd p9.1
    ((op p9.2 (.ld true 4 (.c p1.1))).bind fun p10 =>
    (c.call 86 [x0, p10.1] p10.2).bind fun p11 =>
    (op p11.2 (.ext (.c p11.1) 0)).bind fun p12 =>
    (op p12.2 (.ext (.c p11.1) 1)).bind fun p13 =>
    fin [.v p12.1, .v p13.1] p13.2)
    ((op p9.2 (.bin .eql (.c p8.1) (.c (.lit (.int .i64 2))))).bind fun p14 =>
    cnd p14.1
      ((op p14.2 (.un .not (.c p6.1))).bind fun p15 =>
      cnd p15.1
        (fin [.v nilD, .v (.lit (.int .i64 5))] p15.2)
        ((op p15.2 (.fa [1, 1, 1, 1] 2 (.c p1.1))).bind fun p16 =>
        (op p16.2 (.ld false 1 (.c p16.1))).bind fun p17 =>
        (c.call 87 [p17.1] p17.2).bind fun p18 =>
        (op p18.2 (.un .not (.c p18.1))).bind fun p19 =>
        (grd p19.1 false (op p19.2 (.fa [1, 1, 1, 1] 2 (.c p1.1))) p19.2).bind fun p20 =>
        (grd p19.1 false (op p20.2 (.ld false 1 (.c p20.1))) p20.2).bind fun p21 =>
        (grd p19.1 false (op p21.2 (.fa [1, 1, 1, 1] 1 (.c p1.1))) p21.2).bind fun p22 =>
        (grd p19.1 false (op p22.2 (.ld false 1 (.c p22.1))) p22.2).bind fun p23 =>
        (grd p19.1 false (op p23.2 (.bin .eql (.c p21.1) (.c p23.1))) p23.2).bind fun p24 =>
        (op p24.2 (.pick (.c p19.1) (.c (.lit (.bool true))) (.c p24.1))).bind fun p25 =>
        cnd p25.1
          (fin [.v nilD, .v (.lit (.int .i64 1))] p25.2)
          ((c.call 89 [x0, p5.1] p25.2).bind fun p26 =>
          (op p26.2 (.fa [1, 1, 1, 1] 2 (.c p1.1))).bind fun p27 =>
          (op p26.2 (.ld false 1 (.c p27.1))).bind fun p28 =>
          (op p26.2 (.ia 2 (.c x0) (.c p5.1))).bind fun p29 =>
          (op p26.2 (.fa [1, 1] 1 (.c p29.1))).bind fun p30 =>
          (op p26.2 (.ld false 1 (.c p30.1))).bind fun p31 =>
          (op p26.2 (.build [1, 1] [(.lit (.string ⟨#[]⟩)), (.lit (.int .i64 0))] [(0, (.c p28.1)), (1, (.c p31.1))])).bind fun p32 =>
          (c.call 88 [p26.1, p32.1] p26.2).bind fun p33 =>
          if ((sm p31.1 (op p25.2 (.ld false 1 (.c p30.1))) && (sm p31.1 (op p26.2 (.ld false 1 (.c p30.1))) && (true && true))) && ((sm p28.1 (op p25.2 (.ld false 1 (.c p27.1))) && (sm p28.1 (op p26.2 (.ld false 1 (.c p27.1))) && (true && true))) && true)) = true then
          fin [.v p33.1, .v (.lit (.int .i64 0))] p33.2
          else none)))
      ((op p14.2 (.bin .eql (.c p8.1) (.c (.lit (.int .i64 3))))).bind fun p34 =>
      cnd p34.1
        ((op p34.2 (.un .not (.c p6.1))).bind fun p35 =>
        cnd p35.1
          (fin [.v nilD, .v (.lit (.int .i64 5))] p35.2)
          ((c.call 89 [x0, p5.1] p35.2).bind fun p36 =>
          fin [.v p36.1, .v (.lit (.int .i64 0))] p36.2))
        (fin [.v nilD, .v (.lit (.int .i64 16))] p34.2))) := by kernel_rfl
/-! slices.Clone[[]newsreel/api.DirOp,newsreel/api.DirOp] -/
theorem ok74 : a74.ok = true := by kernel_rfl
theorem e74 (c : Cx) (x0 : D) (h : Hp) : bodyA c a74 [x0] h =
  (op h (.eq false .nilS (.c x0) (.c nilD))).bind fun p1 =>
  cnd p1.1
    (fin [.v nilD] p1.2)
    ((op p1.2 (.bsl true 4 [] [])).bind fun p2 =>
    (op p2.2 (.app 4 2932031007402 (.c p2.1) (.c x0))).bind fun p3 =>
    fin [.v p3.1] p3.2) := by kernel_rfl
/-! slices.ContainsFunc[[]newsreel/api.Piece,newsreel/api.Piece] -/
theorem ok75 : a75.ok = true := by kernel_rfl
theorem e75 (c : Cx) (x0 x1 : D) (h : Hp) : bodyA c a75 [x0, x1] h =
  (c.call 90 [x0, x1] h).bind fun p1 =>
  (op p1.2 (.bin .geq (.c p1.1) (.c (.lit (.int .i64 0))))).bind fun p2 =>
  fin [.v p2.1] p2.2 := by kernel_rfl
/-! newsreel/file.Right$1 -/
theorem ok76 : a76.ok = true := by kernel_rfl
theorem e76 (c : Cx) (x0 : D) (h : Hp) : bodyA c a76 [x0] h =
  (op h (.box false (.c x0))).bind fun p1 =>
  (op p1.2 (.ld true 2 (.c p1.1))).bind fun p2 =>
  (c.call 60 [p2.1] p2.2).bind fun p3 =>
  (op p3.2 (.un .not (.c p3.1))).bind fun p4 =>
  fin [.v p4.1] p4.2 := by kernel_rfl
/-! bytes.Equal -/
theorem ok77 : a77.ok = true := by kernel_rfl
theorem e77 (c : Cx) (x0 x1 : D) (h : Hp) : bodyA c a77 [x0, x1] h =
  (op h (.b2s (.c x0))).bind fun p1 =>
  (op p1.2 (.b2s (.c x1))).bind fun p2 =>
  (op p2.2 (.bin .eql (.c p1.1) (.c p2.1))).bind fun p3 =>
  fin [.v p3.1] p3.2 := by kernel_rfl
/-! newsreel/dir.may -/
theorem ok78 : a78.ok = true := by kernel_rfl
noncomputable def l78_1 (c : Cx) (v0 v5 v6 v7 : D) (h : Hp) : Option (List D × Hp) := c.lp 225 (codeA [1, 0, 1, 0] a78.body).bodyOf (blockK 0 (seqK (cpsA c.call c.lp (codeA [1, 1] a78.body)) (finA a78))) ⟨[v0, und, und, und, und, v5, v6, v7, und, und, und, und, und, und, und, und, und, und, und, und, und, und, und, und, und, und, und, und, und, und, und, und, und, und, und], h⟩
theorem l78_1_eq (c : Cx) (v0 v5 v6 v7 : D) (h : Hp) : l78_1 c v0 v5 v6 v7 h =
  (op h (.bin .lss (.c v7) (.c v6))).bind fun p2 =>
  cnd p2.1
    ((op p2.2 (.ia 2 (.c v5) (.c v7))).bind fun p3 =>
    (op p3.2 (.ld true 2 (.c p3.1))).bind fun p4 =>
    (op p4.2 (.box true (.c (.agg [1, 1] [(.lit (.string ⟨#[]⟩)), (.lit (.int .i64 0))])))).bind fun p5 =>
    (op p5.2 (.st 2 (.c p5.1) (.c p4.1))).bind fun p6 =>
    (op p6.2 (.fa [1, 1] 0 (.c p5.1))).bind fun p7 =>
    (op p6.2 (.ld false 1 (.c p7.1))).bind fun p8 =>
    (c.call 87 [p8.1] p6.2).bind fun p9 =>
    (op p6.2 (.un .not (.c p9.1))).bind fun p10 =>
    (grd p10.1 false (op p6.2 (.mv (.c v7))) p6.2).bind fun p11 =>
    (grd p10.1 false (op p6.2 (.bin .gtr (.c p11.1) (.c (.lit (.int .i64 0))))) p6.2).bind fun p12 =>
    (grd p10.1 false (op p6.2 (.mv (.c p12.1))) p6.2).bind fun p13 =>
    (grd p13.1 true (op p6.2 (.mv (.c v0))) p6.2).bind fun p14 =>
    (grd p13.1 true (op p6.2 (.mv (.c v7))) p6.2).bind fun p15 =>
    (grd p13.1 true (op p6.2 (.bin .sub (.c p15.1) (.c (.lit (.int .i64 1))))) p6.2).bind fun p16 =>
    (grd p13.1 true (op p6.2 (.ia 2 (.c p14.1) (.c p16.1))) p6.2).bind fun p17 =>
    (grd p13.1 true (op p6.2 (.fa [1, 1] 0 (.c p17.1))) p6.2).bind fun p18 =>
    (grd p13.1 true (op p6.2 (.ld false 1 (.c p18.1))) p6.2).bind fun p19 =>
    (grd p13.1 true (op p6.2 (.fa [1, 1] 0 (.c p5.1))) p6.2).bind fun p20 =>
    (grd p13.1 true (op p6.2 (.ld false 1 (.c p20.1))) p6.2).bind fun p21 =>
    (grd p13.1 true (op p6.2 (.bin .geq (.c p19.1) (.c p21.1))) p6.2).bind fun p22 =>
    (grd p10.1 false (op p6.2 (.pick (.c p13.1) (.c p22.1) (.c (.lit (.bool false))))) p6.2).bind fun p23 =>
    (op p6.2 (.pick (.c p10.1) (.c (.lit (.bool true))) (.c p23.1))).bind fun p24 =>
    cnd p24.1
      (fin [.v (.lit (.bool false))] p6.2)
      ((op p6.2 (.bin .add (.c v7) (.c (.lit (.int .i64 1))))).bind fun p25 =>
      l78_1 c v0 v5 v6 p25.1 p25.2))
    ((op p2.2 (.len false (.c v0))).bind fun p26 =>
    (op p26.2 (.bin .leq (.c p26.1) (.c (.lit (.int .i64 100))))).bind fun p27 =>
    fin [.v p27.1] p27.2) := loop_text (by kernel_rfl) (by kernel_rfl)
theorem e78 (c : Cx) (x0 : D) (h : Hp) : bodyA c a78 [x0] h =
  (op h (.len false (.c x0))).bind fun p1 =>
  l78_1 c x0 x0 p1.1 (.lit (.int .i64 0)) p1.2 := by kernel_rfl
/-! slices.Equal[[]newsreel/api.Entry,newsreel/api.Entry] -/
theorem ok79 : a79.ok = true := by kernel_rfl
noncomputable def l79_1 (c : Cx) (v0 v1 v12 v13 : D) (h : Hp) : Option (List D × Hp) := c.lp 12291 (codeA [1, 1, 0, 1, 0] a79.body).bodyOf (blockK 0 (seqK (cpsA c.call c.lp (codeA [1, 1, 1] a79.body)) (finA a79))) ⟨[v0, v1, und, und, und, und, und, und, und, und, und, und, v12, v13, und, und, und, und, und, und, und, und, und, und, und, und], h⟩
theorem l79_1_eq (c : Cx) (v0 v1 v12 v13 : D) (h : Hp) : l79_1 c v0 v1 v12 v13 h =
  (op h (.bin .lss (.c v13) (.c v12))).bind fun p5 =>
  cnd p5.1
    ((op p5.2 (.ia 2 (.c v0) (.c v13))).bind fun p6 =>
    (op p5.2 (.ld true 2 (.c p6.1))).bind fun p7 =>
    (op p5.2 (.ia 2 (.c v1) (.c v13))).bind fun p8 =>
    (op p5.2 (.ld true 2 (.c p8.1))).bind fun p9 =>
    (op p5.2 (.eq true (.fields [1, 1] [.str, .int]) (.c p7.1) (.c p9.1))).bind fun p10 =>
    cnd p10.1
      (fin [.v (.lit (.bool false))] p5.2)
      ((op p5.2 (.bin .add (.c v13) (.c (.lit (.int .i64 1))))).bind fun p11 =>
      l79_1 c v0 v1 v12 p11.1 p11.2))
    (fin [.v (.lit (.bool true))] p5.2) := loop_text (by kernel_rfl) (by kernel_rfl)
theorem e79 (c : Cx) (x0 x1 : D) (h : Hp) : bodyA c a79 [x0, x1] h =
  (op h (.len false (.c x0))).bind fun p1 =>
  (op p1.2 (.len false (.c x1))).bind fun p2 =>
  (op p2.2 (.bin .neq (.c p1.1) (.c p2.1))).bind fun p3 =>
  cnd p3.1
    (fin [.v (.lit (.bool false))] p3.2)
    ((op p3.2 (.len false (.c x0))).bind fun p4 =>
    l79_1 c x0 x1 p4.1 (.lit (.int .i64 0)) p4.2) := by kernel_rfl
/-! newsreel/newsreelref10.Name -/
theorem ok80 : a80.ok = true := by kernel_rfl
noncomputable def l80_1 (c : Cx) (v0 v3 : D) (h : Hp) : Option (List D × Hp) := c.lp 9 (codeA [1, 0, 1, 0] a80.body).bodyOf (blockK 0 (seqK (cpsA c.call c.lp (codeA [1, 1] a80.body)) (finA a80))) ⟨[v0, und, und, v3, und, und, und, und, und, und, und, und, und, und, und, und, und, und, und, und, und, und, und, und, und, und, und, und, und, und, und, und, und, und, und, und, und, und, und, und, und, und, und, und, und, und, und], h⟩
theorem l80_1_eq (c : Cx) (v0 v3 : D) (h : Hp) : l80_1 c v0 v3 h =
  (op h (.len true (.c v0))).bind fun p1 =>
  (op p1.2 (.bin .lss (.c v3) (.c p1.1))).bind fun p2 =>
  cnd p2.1
    ((op p2.2 (.ixS (.c v0) (.c v3))).bind fun p3 =>
    (op p3.2 (.bin .geq (.c p3.1) (.c (.lit (.int .u8 97))))).bind fun p4 =>
    (grd p4.1 true (op p4.2 (.mv (.c v0))) p4.2).bind fun p5 =>
    (grd p4.1 true (op p5.2 (.mv (.c v3))) p5.2).bind fun p6 =>
    (grd p4.1 true (op p6.2 (.ixS (.c p5.1) (.c p6.1))) p6.2).bind fun p7 =>
    (grd p4.1 true (op p7.2 (.bin .leq (.c p7.1) (.c (.lit (.int .u8 122))))) p7.2).bind fun p8 =>
    (op p8.2 (.pick (.c p4.1) (.c p8.1) (.c (.lit (.bool false))))).bind fun p9 =>
    (grd p9.1 false (op p9.2 (.mv (.c v0))) p9.2).bind fun p10 =>
    (grd p9.1 false (op p10.2 (.mv (.c v3))) p10.2).bind fun p11 =>
    (grd p9.1 false (op p11.2 (.ixS (.c p10.1) (.c p11.1))) p11.2).bind fun p12 =>
    (grd p9.1 false (op p12.2 (.bin .geq (.c p12.1) (.c (.lit (.int .u8 48))))) p12.2).bind fun p13 =>
    (grd p9.1 false (op p13.2 (.mv (.c p13.1))) p13.2).bind fun p14 =>
    (grd p14.1 true (op p14.2 (.mv (.c v0))) p14.2).bind fun p15 =>
    (grd p14.1 true (op p15.2 (.mv (.c v3))) p15.2).bind fun p16 =>
    (grd p14.1 true (op p16.2 (.ixS (.c p15.1) (.c p16.1))) p16.2).bind fun p17 =>
    (grd p14.1 true (op p17.2 (.bin .leq (.c p17.1) (.c (.lit (.int .u8 57))))) p17.2).bind fun p18 =>
    (grd p9.1 false (op p18.2 (.pick (.c p14.1) (.c p18.1) (.c (.lit (.bool false))))) p18.2).bind fun p19 =>
    (op p19.2 (.pick (.c p9.1) (.c (.lit (.bool true))) (.c p19.1))).bind fun p20 =>
    (grd p20.1 false (op p20.2 (.mv (.c v0))) p20.2).bind fun p21 =>
    (grd p20.1 false (op p21.2 (.mv (.c v3))) p21.2).bind fun p22 =>
    (grd p20.1 false (op p22.2 (.ixS (.c p21.1) (.c p22.1))) p22.2).bind fun p23 =>
    (grd p20.1 false (op p23.2 (.bin .eql (.c p23.1) (.c (.lit (.int .u8 46))))) p23.2).bind fun p24 =>
    (op p24.2 (.pick (.c p20.1) (.c (.lit (.bool true))) (.c p24.1))).bind fun p25 =>
    (op p25.2 (.un .not (.c p25.1))).bind fun p26 =>
    cnd p26.1
      (fin [.v (.lit (.bool false))] p26.2)
      ((op p26.2 (.bin .add (.c v3) (.c (.lit (.int .i64 1))))).bind fun p27 =>
      l80_1 c v0 p27.1 p27.2))
    ((op p2.2 (.len true (.c v0))).bind fun p28 =>
    (op p28.2 (.bin .geq (.c p28.1) (.c (.lit (.int .i64 1))))).bind fun p29 =>
    (grd p29.1 true (op p29.2 (.mv (.c v0))) p29.2).bind fun p30 =>
    (grd p29.1 true (op p30.2 (.len true (.c p30.1))) p30.2).bind fun p31 =>
    (grd p29.1 true (op p31.2 (.bin .leq (.c p31.1) (.c (.lit (.int .i64 24))))) p31.2).bind fun p32 =>
    (op p32.2 (.pick (.c p29.1) (.c p32.1) (.c (.lit (.bool false))))).bind fun p33 =>
    fin [.v p33.1] p33.2) := loop_text (by kernel_rfl) (by kernel_rfl)
theorem e80 (c : Cx) (x0 : D) (h : Hp) : bodyA c a80 [x0] h =
  l80_1 c x0 (.lit (.int .i64 0)) h := by kernel_rfl
/-! newsreel/newsreelref10.Entries -/
theorem ok81 : a81.ok = true := by kernel_rfl
noncomputable def l81_1 (c : Cx) (v0 v1 v5 : D) (h : Hp) : Option (List D × Hp) := c.lp 35 (codeA [1, 1, 0, 1, 0] a81.body).bodyOf (blockK 0 (seqK (cpsA c.call c.lp (codeA [1, 1, 1] a81.body)) (finA a81))) ⟨[v0, v1, und, und, und, v5, und, und, und, und, und, und, und, und, und, und, und, und, und, und, und, und, und, und, und, und], h⟩
theorem l81_1_eq (c : Cx) (v0 v1 v5 : D) (h : Hp) : l81_1 c v0 v1 v5 h =
  (op h (.len false (.c v0))).bind fun p4 =>
  (op p4.2 (.bin .lss (.c v5) (.c p4.1))).bind fun p5 =>
  cnd p5.1
    ((op p5.2 (.ia 2 (.c v0) (.c v5))).bind fun p6 =>
    (op p5.2 (.ld true 2 (.c p6.1))).bind fun p7 =>
    (op p5.2 (.ia 2 (.c v1) (.c v5))).bind fun p8 =>
    (op p5.2 (.ld true 2 (.c p8.1))).bind fun p9 =>
    (op p5.2 (.eq true (.fields [1, 1] [.str, .int]) (.c p7.1) (.c p9.1))).bind fun p10 =>
    cnd p10.1
      (fin [.v (.lit (.bool false))] p5.2)
      ((op p5.2 (.bin .add (.c v5) (.c (.lit (.int .i64 1))))).bind fun p11 =>
      l81_1 c v0 v1 p11.1 p11.2))
    (fin [.v (.lit (.bool true))] p5.2) := loop_text (by kernel_rfl) (by kernel_rfl)
theorem e81 (c : Cx) (x0 x1 : D) (h : Hp) : bodyA c a81 [x0, x1] h =
  (op h (.len false (.c x0))).bind fun p1 =>
  (op p1.2 (.len false (.c x1))).bind fun p2 =>
  (op p2.2 (.bin .neq (.c p1.1) (.c p2.1))).bind fun p3 =>
  cnd p3.1
    (fin [.v (.lit (.bool false))] p3.2)
    (l81_1 c x0 x1 (.lit (.int .i64 0)) p3.2) := by kernel_rfl
/-! newsreel/newsreelref10.With -/
theorem ok82 : a82.ok = true := by kernel_rfl
noncomputable def l82_1 (c : Cx) (v0 v3 v5 v6 v7 : D) (h : Hp) : Option (List D × Hp) := c.lp 233 (codeA [1, 1, 1, 0, 1, 0] a82.body).bodyOf (blockK 0 (seqK (cpsA c.call c.lp (codeA [1, 1, 1, 1] a82.body)) (finA a82))) ⟨[v0, und, und, v3, und, v5, v6, v7, und, und, und, und, und, und, und, und, und, und, und, und, und, und, und, und, und, und, und, und, und, und, und, und, und, und, und, und, und, und, und, und, und, und, und, und, und], h⟩
theorem l82_1_eq (c : Cx) (v0 v3 v5 v6 v7 : D) (h : Hp) : l82_1 c v0 v3 v5 v6 v7 h =
  (op h (.len false (.c v0))).bind fun p3 =>
  (op p3.2 (.bin .lss (.c v7) (.c p3.1))).bind fun p4 =>
  cnd p4.1
    ((op p4.2 (.un .not (.c v6))).bind fun p5 =>
    (grd p5.1 true (op p4.2 (.mv (.c v0))) p4.2).bind fun p6 =>
    (grd p5.1 true (op p4.2 (.mv (.c v7))) p4.2).bind fun p7 =>
    (grd p5.1 true (op p4.2 (.ia 2 (.c p6.1) (.c p7.1))) p4.2).bind fun p8 =>
    (grd p5.1 true (op p4.2 (.fa [1, 1] 0 (.c p8.1))) p4.2).bind fun p9 =>
    (grd p5.1 true (op p4.2 (.ld false 1 (.c p9.1))) p4.2).bind fun p10 =>
    (grd p5.1 true (op p4.2 (.fa [1, 1] 0 (.c v3))) p4.2).bind fun p11 =>
    (grd p5.1 true (op p4.2 (.ld false 1 (.c p11.1))) p4.2).bind fun p12 =>
    (grd p5.1 true (op p4.2 (.bin .gtr (.c p10.1) (.c p12.1))) p4.2).bind fun p13 =>
    (op p4.2 (.pick (.c p5.1) (.c p13.1) (.c (.lit (.bool false))))).bind fun p14 =>
    cnd p14.1
      ((op p4.2 (.ld true 2 (.c v3))).bind fun p15 =>
      (op p15.2 (.bsl false 2 [(.agg [1, 1] [(.lit (.string ⟨#[]⟩)), (.lit (.int .i64 0))])] [(0, (.c p15.1))])).bind fun p16 =>
      (op p16.2 (.app 2 5864062014805 (.c v5) (.c p16.1))).bind fun p17 =>
      (op p17.2 (.ia 2 (.c v0) (.c v7))).bind fun p18 =>
      (op p18.2 (.ld true 2 (.c p18.1))).bind fun p19 =>
      (op p19.2 (.bsl false 2 [(.agg [1, 1] [(.lit (.string ⟨#[]⟩)), (.lit (.int .i64 0))])] [(0, (.c p19.1))])).bind fun p20 =>
      (op p20.2 (.app 2 5864062014805 (.c p17.1) (.c p20.1))).bind fun p21 =>
      (op p21.2 (.bin .add (.c v7) (.c (.lit (.int .i64 1))))).bind fun p22 =>
      l82_1 c v0 v3 p21.1 (.lit (.bool true)) p22.1 p22.2)
      ((op p4.2 (.ia 2 (.c v0) (.c v7))).bind fun p23 =>
      (op p23.2 (.ld true 2 (.c p23.1))).bind fun p24 =>
      (op p24.2 (.bsl false 2 [(.agg [1, 1] [(.lit (.string ⟨#[]⟩)), (.lit (.int .i64 0))])] [(0, (.c p24.1))])).bind fun p25 =>
      (op p25.2 (.app 2 5864062014805 (.c v5) (.c p25.1))).bind fun p26 =>
      (op p26.2 (.bin .add (.c v7) (.c (.lit (.int .i64 1))))).bind fun p27 =>
      l82_1 c v0 v3 p26.1 v6 p27.1 p27.2))
    ((op p4.2 (.un .not (.c v6))).bind fun p28 =>
    cnd p28.1
      ((op p28.2 (.ld true 2 (.c v3))).bind fun p29 =>
      (op p29.2 (.bsl false 2 [(.agg [1, 1] [(.lit (.string ⟨#[]⟩)), (.lit (.int .i64 0))])] [(0, (.c p29.1))])).bind fun p30 =>
      (op p30.2 (.app 2 5864062014805 (.c v5) (.c p30.1))).bind fun p31 =>
      fin [.v p31.1] p31.2)
      (fin [.v v5] p28.2)) := loop_text (by kernel_rfl) (by kernel_rfl)
theorem e82 (c : Cx) (x0 x1 : D) (h : Hp) : bodyA c a82 [x0, x1] h =
  (op h (.box false (.c x1))).bind fun p1 =>
  (op p1.2 (.bsl true 2 [] [])).bind fun p2 =>
  l82_1 c x0 p1.1 p2.1 (.lit (.bool false)) (.lit (.int .i64 0)) p2.2 := by kernel_rfl
/-! newsreel/newsreelref10.Without -/
theorem ok83 : a83.ok = true := by kernel_rfl
noncomputable def l83_1 (c : Cx) (v0 v1 v5 v6 : D) (h : Hp) : Option (List D × Hp) := c.lp 99 (codeA [1, 1, 0, 1, 0] a83.body).bodyOf (blockK 0 (seqK (cpsA c.call c.lp (codeA [1, 1, 1] a83.body)) (finA a83))) ⟨[v0, v1, und, und, und, v5, v6, und, und, und, und, und, und, und, und, und, und, und, und, und, und, und, und, und, und, und, und, und, und], h⟩
theorem l83_1_eq (c : Cx) (v0 v1 v5 v6 : D) (h : Hp) : l83_1 c v0 v1 v5 v6 h =
  (op h (.len false (.c v0))).bind fun p2 =>
  (op p2.2 (.bin .lss (.c v6) (.c p2.1))).bind fun p3 =>
  cnd p3.1
    ((op p3.2 (.ia 2 (.c v0) (.c v6))).bind fun p4 =>
    (op p4.2 (.fa [1, 1] 0 (.c p4.1))).bind fun p5 =>
    (op p5.2 (.ld false 1 (.c p5.1))).bind fun p6 =>
    (op p6.2 (.bin .neq (.c p6.1) (.c v1))).bind fun p7 =>
    cnd p7.1
      ((op p7.2 (.ia 2 (.c v0) (.c v6))).bind fun p8 =>
      (op p8.2 (.ld true 2 (.c p8.1))).bind fun p9 =>
      (op p9.2 (.bsl false 2 [(.agg [1, 1] [(.lit (.string ⟨#[]⟩)), (.lit (.int .i64 0))])] [(0, (.c p9.1))])).bind fun p10 =>
      (op p10.2 (.app 2 5864062014805 (.c v5) (.c p10.1))).bind fun p11 =>
      (op p11.2 (.bin .add (.c v6) (.c (.lit (.int .i64 1))))).bind fun p12 =>
      l83_1 c v0 v1 p11.1 p12.1 p12.2)
      ((op p7.2 (.bin .add (.c v6) (.c (.lit (.int .i64 1))))).bind fun p13 =>
      l83_1 c v0 v1 v5 p13.1 p13.2))
    (fin [.v v5] p3.2) := loop_text (by kernel_rfl) (by kernel_rfl)
theorem e83 (c : Cx) (x0 x1 : D) (h : Hp) : bodyA c a83 [x0, x1] h =
  (op h (.bsl true 2 [] [])).bind fun p1 =>
  l83_1 c x0 x1 p1.1 (.lit (.int .i64 0)) p1.2 := by kernel_rfl
/-! newsreel/newsreelref08.Right -/
theorem ok84 : a84.ok = true := by kernel_rfl
theorem e84 (c : Cx) (x0 : D) (h : Hp) : bodyA c a84 [x0] h =
  (op h (.box false (.c x0))).bind fun p1 =>
  (op p1.2 (.fa [1, 1] 0 (.c p1.1))).bind fun p2 =>
  (op p2.2 (.ld false 1 (.c p2.1))).bind fun p3 =>
  (op p3.2 (.bin .geq (.c p3.1) (.c (.lit (.int .i64 0))))).bind fun p4 =>
  (grd p4.1 true (op p4.2 (.fa [1, 1] 0 (.c p1.1))) p4.2).bind fun p5 =>
  (grd p4.1 true (op p5.2 (.ld false 1 (.c p5.1))) p5.2).bind fun p6 =>
  (grd p4.1 true (op p6.2 (.bin .lss (.c p6.1) (.c (.lit (.int .i64 65536))))) p6.2).bind fun p7 =>
  (op p7.2 (.pick (.c p4.1) (.c p7.1) (.c (.lit (.bool false))))).bind fun p8 =>
  (grd p8.1 true (op p8.2 (.fa [1, 1] 1 (.c p1.1))) p8.2).bind fun p9 =>
  (grd p8.1 true (op p9.2 (.ld false 1 (.c p9.1))) p9.2).bind fun p10 =>
  (grd p8.1 true (op p10.2 (.len false (.c p10.1))) p10.2).bind fun p11 =>
  (grd p8.1 true (op p11.2 (.bin .gtr (.c p11.1) (.c (.lit (.int .i64 0))))) p11.2).bind fun p12 =>
  (op p12.2 (.pick (.c p8.1) (.c p12.1) (.c (.lit (.bool false))))).bind fun p13 =>
  (grd p13.1 true (op p13.2 (.fa [1, 1] 1 (.c p1.1))) p13.2).bind fun p14 =>
  (grd p13.1 true (op p14.2 (.ld false 1 (.c p14.1))) p14.2).bind fun p15 =>
  (grd p13.1 true (op p15.2 (.len false (.c p15.1))) p15.2).bind fun p16 =>
  (grd p13.1 true (op p16.2 (.fa [1, 1] 0 (.c p1.1))) p16.2).bind fun p17 =>
  (grd p13.1 true (op p17.2 (.ld false 1 (.c p17.1))) p17.2).bind fun p18 =>
  (grd p13.1 true (op p18.2 (.bin .rem (.c p18.1) (.c (.lit (.int .i64 16))))) p18.2).bind fun p19 =>
  (grd p13.1 true (op p19.2 (.bin .sub (.c (.lit (.int .i64 16))) (.c p19.1))) p19.2).bind fun p20 =>
  (grd p13.1 true (op p20.2 (.bin .leq (.c p16.1) (.c p20.1))) p20.2).bind fun p21 =>
  (op p21.2 (.pick (.c p13.1) (.c p21.1) (.c (.lit (.bool false))))).bind fun p22 =>
  fin [.v p22.1] p22.2 := by kernel_rfl
/-! newsreel/dir.place -/
theorem ok85 : a85.ok = true := by kernel_rfl
theorem e85 (c : Cx) (x0 x1 : D) (h : Hp) : bodyA c a85 [x0, x1] h =
  (c.call 91 [x0, x1, (.fn 92 0 [])] h).bind fun p1 =>
  (op p1.2 (.ext (.c p1.1) 0)).bind fun p2 =>
  (op p2.2 (.ext (.c p1.1) 1)).bind fun p3 =>
  fin [.v p2.1, .v p3.1] p3.2 := by kernel_rfl
/-! newsreel/dir.link -/
theorem ok86 : a86.ok = true := by kernel_rfl
theorem e86 (c : Cx) (x0 x1 : D) (h : Hp) : bodyA c a86 [x0, x1] h =
  (op h (.box false (.c x1))).bind fun p1 =>
  (op p1.2 (.fa [1, 1, 1, 1] 1 (.c p1.1))).bind fun p2 =>
  (op p2.2 (.ld false 1 (.c p2.1))).bind fun p3 =>
  (c.call 87 [p3.1] p3.2).bind fun p4 =>
  (op p4.2 (.un .not (.c p4.1))).bind fun p5 =>
  cnd p5.1
    (fin [.v nilD, .v (.lit (.int .i64 1))] p5.2)
    ((op p5.2 (.fa [1, 1, 1, 1] 1 (.c p1.1))).bind fun p6 =>
    (op p6.2 (.ld false 1 (.c p6.1))).bind fun p7 =>
    (c.call 85 [x0, p7.1] p7.2).bind fun p8 =>
    (op p8.2 (.ext (.c p8.1) 0)).bind fun p9 =>
    (op p9.2 (.ext (.c p8.1) 1)).bind fun p10 =>
    cnd p10.1
      (fin [.v nilD, .v (.lit (.int .i64 6))] p10.2)
      ((op p10.2 (.len false (.c x0))).bind fun p11 =>
      (op p11.2 (.bin .geq (.c p11.1) (.c (.lit (.int .i64 100))))).bind fun p12 =>
      cnd p12.1
        (fin [.v nilD, .v (.lit (.int .i64 7))] p12.2)
        ((op p12.2 (.fa [1, 1, 1, 1] 1 (.c p1.1))).bind fun p13 =>
        (op p13.2 (.ld false 1 (.c p13.1))).bind fun p14 =>
        (op p14.2 (.fa [1, 1, 1, 1] 3 (.c p1.1))).bind fun p15 =>
        (op p15.2 (.ld false 1 (.c p15.1))).bind fun p16 =>
        (op p16.2 (.build [1, 1] [(.lit (.string ⟨#[]⟩)), (.lit (.int .i64 0))] [(0, (.c p14.1)), (1, (.c p16.1))])).bind fun p17 =>
        (c.call 88 [x0, p17.1] p17.2).bind fun p18 =>
        fin [.v p18.1, .v (.lit (.int .i64 0))] p18.2))) := by kernel_rfl
/-! newsreel/dir.Name -/
theorem ok87 : a87.ok = true := by kernel_rfl
noncomputable def l87_1 (c : Cx) (v0 v6 v7 : D) (h : Hp) : Option (List D × Hp) := c.lp 193 (codeA [1, 0, 1, 0] a87.body).bodyOf (blockK 0 (seqK (cpsA c.call c.lp (codeA [1, 1] a87.body)) (finA a87))) ⟨[v0, und, und, und, und, und, v6, v7, und, und, und, und, und, und, und, und, und, und, und, und, und, und, und, und, und, und, und, und, und, und, und, und, und, und, und, und, und, und, und], h⟩
theorem l87_1_eq (c : Cx) (v0 v6 v7 : D) (h : Hp) : l87_1 c v0 v6 v7 h =
  (op h (.bin .lss (.c v7) (.c v6))).bind fun p2 =>
  cnd p2.1
    ((op p2.2 (.ixS (.c v0) (.c v7))).bind fun p3 =>
    (op p3.2 (.bin .lss (.c p3.1) (.c (.lit (.int .u8 97))))).bind fun p4 =>
    (grd p4.1 false (op p4.2 (.mv (.c p3.1))) p4.2).bind fun p5 =>
    (grd p4.1 false (op p5.2 (.bin .gtr (.c p5.1) (.c (.lit (.int .u8 122))))) p5.2).bind fun p6 =>
    (op p6.2 (.pick (.c p4.1) (.c (.lit (.bool true))) (.c p6.1))).bind fun p7 =>
    (grd p7.1 true (op p7.2 (.mv (.c p3.1))) p7.2).bind fun p8 =>
    (grd p7.1 true (op p8.2 (.bin .lss (.c p8.1) (.c (.lit (.int .u8 48))))) p8.2).bind fun p9 =>
    (grd p7.1 true (op p9.2 (.mv (.c p9.1))) p9.2).bind fun p10 =>
    (grd p10.1 false (op p10.2 (.mv (.c p3.1))) p10.2).bind fun p11 =>
    (grd p10.1 false (op p11.2 (.bin .gtr (.c p11.1) (.c (.lit (.int .u8 57))))) p11.2).bind fun p12 =>
    (grd p7.1 true (op p12.2 (.pick (.c p10.1) (.c (.lit (.bool true))) (.c p12.1))) p12.2).bind fun p13 =>
    (op p13.2 (.pick (.c p7.1) (.c p13.1) (.c (.lit (.bool false))))).bind fun p14 =>
    (grd p14.1 true (op p14.2 (.mv (.c p3.1))) p14.2).bind fun p15 =>
    (grd p14.1 true (op p15.2 (.bin .neq (.c p15.1) (.c (.lit (.int .u8 46))))) p15.2).bind fun p16 =>
    (op p16.2 (.pick (.c p14.1) (.c p16.1) (.c (.lit (.bool false))))).bind fun p17 =>
    cnd p17.1
      (fin [.v (.lit (.bool false))] p17.2)
      ((op p17.2 (.bin .add (.c v7) (.c (.lit (.int .i64 1))))).bind fun p18 =>
      l87_1 c v0 v6 p18.1 p18.2))
    ((op p2.2 (.bin .neq (.c v0) (.c (.lit (.string ⟨#[]⟩))))).bind fun p19 =>
    (grd p19.1 true (op p19.2 (.mv (.c v0))) p19.2).bind fun p20 =>
    (grd p19.1 true (op p20.2 (.len true (.c p20.1))) p20.2).bind fun p21 =>
    (grd p19.1 true (op p21.2 (.bin .leq (.c p21.1) (.c (.lit (.int .i64 24))))) p21.2).bind fun p22 =>
    (op p22.2 (.pick (.c p19.1) (.c p22.1) (.c (.lit (.bool false))))).bind fun p23 =>
    fin [.v p23.1] p23.2) := loop_text (by kernel_rfl) (by kernel_rfl)
theorem e87 (c : Cx) (x0 : D) (h : Hp) : bodyA c a87 [x0] h =
  (op h (.len true (.c x0))).bind fun p1 =>
  l87_1 c x0 p1.1 (.lit (.int .i64 0)) p1.2 := by kernel_rfl
/-! newsreel/dir.with -/
theorem ok88 : a88.ok = true := by kernel_rfl
theorem e88 (c : Cx) (x0 x1 : D) (h : Hp) : bodyA c a88 [x0, x1] h =
  (op h (.box false (.c x1))).bind fun p1 =>
  (op p1.2 (.fa [1, 1] 0 (.c p1.1))).bind fun p2 =>
  (op p2.2 (.ld false 1 (.c p2.1))).bind fun p3 =>
  (c.call 85 [x0, p3.1] p3.2).bind fun p4 =>
  (op p4.2 (.ext (.c p4.1) 0)).bind fun p5 =>
  (op p5.2 (.ext (.c p4.1) 1)).bind fun p6 =>
  (c.call 64 [x0] p6.2).bind fun p7 =>
  cnd p6.1
    ((op p7.2 (.ld true 2 (.c p1.1))).bind fun p8 =>
    (op p8.2 (.ia 2 (.c p7.1) (.c p5.1))).bind fun p9 =>
    (op p9.2 (.st 2 (.c p9.1) (.c p8.1))).bind fun p10 =>
    fin [.v p7.1] p10.2)
    ((op p7.2 (.ld true 2 (.c p1.1))).bind fun p11 =>
    (op p11.2 (.bsl false 2 [(.agg [1, 1] [(.lit (.string ⟨#[]⟩)), (.lit (.int .i64 0))])] [(0, (.c p11.1))])).bind fun p12 =>
    (c.call 94 [p7.1, p5.1, p12.1] p12.2).bind fun p13 =>
    fin [.v p13.1] p13.2) := by kernel_rfl
/-! newsreel/dir.without -/
theorem ok89 : a89.ok = true := by kernel_rfl
theorem e89 (c : Cx) (x0 x1 : D) (h : Hp) : bodyA c a89 [x0, x1] h =
  (c.call 64 [x0] h).bind fun p1 =>
  (op p1.2 (.bin .add (.c x1) (.c (.lit (.int .i64 1))))).bind fun p2 =>
  (c.call 95 [p1.1, x1, p2.1] p2.2).bind fun p3 =>
  fin [.v p3.1] p3.2 := by kernel_rfl
/-! slices.IndexFunc[[]newsreel/api.Piece,newsreel/api.Piece] -/
theorem ok90 : a90.ok = true := by kernel_rfl
noncomputable def l90_1 (c : Cx) (v0 v1 v7 v8 : D) (h : Hp) : Option (List D × Hp) := c.lp 387 (codeA [1, 0, 1, 0] a90.body).bodyOf (blockK 0 (seqK (cpsA c.call c.lp (codeA [1, 1] a90.body)) (finA a90))) ⟨[v0, v1, und, und, und, und, und, v7, v8, und, und, und, und, und, und, und, und, und, und], h⟩
theorem l90_1_eq (c : Cx) (v0 v1 v7 v8 : D) (h : Hp) : l90_1 c v0 v1 v7 v8 h =
  (op h (.bin .lss (.c v8) (.c v7))).bind fun p2 =>
  cnd p2.1
    ((op p2.2 (.ia 2 (.c v0) (.c v8))).bind fun p3 =>
    (op p3.2 (.ld true 2 (.c p3.1))).bind fun p4 =>
    (callD c.call v1 [p4.1] p4.2).bind fun p5 =>
    cnd p5.1
      (fin [.v v8] p5.2)
      ((op p5.2 (.bin .add (.c v8) (.c (.lit (.int .i64 1))))).bind fun p6 =>
      l90_1 c v0 v1 v7 p6.1 p6.2))
    (fin [.v (.lit (.int .i64 (-1)))] p2.2) := loop_text (by kernel_rfl) (by kernel_rfl)
theorem e90 (c : Cx) (x0 x1 : D) (h : Hp) : bodyA c a90 [x0, x1] h =
  (op h (.len false (.c x0))).bind fun p1 =>
  l90_1 c x0 x1 p1.1 (.lit (.int .i64 0)) p1.2 := by kernel_rfl
/-! slices.BinarySearchFunc[[]newsreel/api.Entry,newsreel/api.Entry,string] -/
theorem ok91 : a91.ok = true := by kernel_rfl
noncomputable def l91_1 (c : Cx) (v0 v1 v2 v8 v9 v10 : D) (h : Hp) : Option (List D × Hp) := c.lp 1799 (codeA [1, 1, 1, 0, 0] a91.body).bodyOf (blockK 0 (seqK (cpsA c.call c.lp (codeA [1, 1, 1, 1] a91.body)) (finA a91))) ⟨[v0, v1, v2, und, und, und, und, und, v8, v9, v10, und, und, und, und, und, und, und, und, und, und, und, und, und, und, und, und, und, und, und, und, und, und, und, und, und, und, und, und, und, und, und, und, und, und, und, und, und, und], h⟩
theorem l91_1_eq (c : Cx) (v0 v1 v2 v8 v9 v10 : D) (h : Hp) : l91_1 c v0 v1 v2 v8 v9 v10 h =
  (op h (.bin .lss (.c v9) (.c v10))).bind fun p2 =>
  cnd p2.1
    ((op p2.2 (.bin .add (.c v9) (.c v10))).bind fun p3 =>
    (op p3.2 (.cvi .u64 (.c p3.1))).bind fun p4 =>
    (op p4.2 (.bin .shr (.c p4.1) (.c (.lit (.int .u64 1))))).bind fun p5 =>
    (op p5.2 (.cvi .i64 (.c p5.1))).bind fun p6 =>
    (op p6.2 (.ia 2 (.c v0) (.c p6.1))).bind fun p7 =>
    (op p7.2 (.ld true 2 (.c p7.1))).bind fun p8 =>
    (callD c.call v2 [p8.1, v1] p8.2).bind fun p9 =>
    (op p9.2 (.bin .lss (.c p9.1) (.c (.lit (.int .i64 0))))).bind fun p10 =>
    cnd p10.1
      ((op p10.2 (.bin .add (.c p6.1) (.c (.lit (.int .i64 1))))).bind fun p11 =>
      l91_1 c v0 v1 v2 v8 p11.1 v10 p11.2)
      (l91_1 c v0 v1 v2 v8 v9 p6.1 p10.2))
    ((op p2.2 (.bin .lss (.c v9) (.c v8))).bind fun p12 =>
    (grd p12.1 true (op p12.2 (.mv (.c v2))) p12.2).bind fun p13 =>
    (grd p12.1 true (op p13.2 (.mv (.c v0))) p13.2).bind fun p14 =>
    (grd p12.1 true (op p14.2 (.mv (.c v9))) p14.2).bind fun p15 =>
    (grd p12.1 true (op p15.2 (.ia 2 (.c p14.1) (.c p15.1))) p15.2).bind fun p16 =>
    (grd p12.1 true (op p16.2 (.ld true 2 (.c p16.1))) p16.2).bind fun p17 =>
    (grd p12.1 true (op p17.2 (.mv (.c v1))) p17.2).bind fun p18 =>
    (grd p12.1 true (callD c.call p13.1 [p17.1, p18.1] p18.2) p18.2).bind fun p19 =>
    (grd p12.1 true (op p19.2 (.bin .eql (.c p19.1) (.c (.lit (.int .i64 0))))) p19.2).bind fun p20 =>
    (op p20.2 (.pick (.c p12.1) (.c p20.1) (.c (.lit (.bool false))))).bind fun p21 =>
    fin [.v v9, .v p21.1] p21.2) := loop_text (by kernel_rfl) (by kernel_rfl)
theorem e91 (c : Cx) (x0 x1 x2 : D) (h : Hp) : bodyA c a91 [x0, x1, x2] h =
  (op h (.len false (.c x0))).bind fun p1 =>
  l91_1 c x0 x1 x2 p1.1 (.lit (.int .i64 0)) p1.1 p1.2 := by kernel_rfl
/-! newsreel/dir.place$1 -/
theorem ok92 : a92.ok = true := by kernel_rfl
theorem e92 (c : Cx) (x0 x1 : D) (h : Hp) : bodyA c a92 [x0, x1] h =
  (op h (.box false (.c x0))).bind fun p1 =>
  (op p1.2 (.fa [1, 1] 0 (.c p1.1))).bind fun p2 =>
  (op p2.2 (.ld false 1 (.c p2.1))).bind fun p3 =>
  (c.call 93 [p3.1, x1] p3.2).bind fun p4 =>
  fin [.v p4.1] p4.2 := by kernel_rfl
/-! strings.Compare -/
theorem ok93 : a93.ok = true := by kernel_rfl
theorem e93 (c : Cx) (x0 x1 : D) (h : Hp) : bodyA c a93 [x0, x1] h =
  (c.call 96 [x0, x1] h).bind fun p1 =>
  fin [.v p1.1] p1.2 := by kernel_rfl
/-! slices.Insert[[]newsreel/api.Entry,newsreel/api.Entry] -/
theorem ok94 : a94.ok = true := by kernel_rfl
theorem e94 (c : Cx) (x0 x1 x2 : D) (h : Hp) : bodyA c a94 [x0, x1, x2] h =
  (op h (.slc 2 (.c x0) (some (.c x1)) none none)).bind fun p1 =>
  (op p1.2 (.len false (.c x2))).bind fun p2 =>
  (op p2.2 (.bin .eql (.c p2.1) (.c (.lit (.int .i64 0))))).bind fun p3 =>
  cnd p3.1
    (fin [.v x0] p3.2)
    ((op p3.2 (.len false (.c x0))).bind fun p4 =>
    (op p4.2 (.bin .eql (.c x1) (.c p4.1))).bind fun p5 =>
    cnd p5.1
      ((op p5.2 (.app 2 5864062014805 (.c x0) (.c x2))).bind fun p6 =>
      fin [.v p6.1] p6.2)
      ((op p5.2 (.bin .add (.c p4.1) (.c p2.1))).bind fun p7 =>
      (op p7.2 (.cap (.c x0))).bind fun p8 =>
      (op p8.2 (.bin .gtr (.c p7.1) (.c p8.1))).bind fun p9 =>
      cnd p9.1
        ((op p9.2 (.slc 2 (.c x0) none (some (.c x1)) none)).bind fun p10 =>
        (op p10.2 (.bin .add (.c p4.1) (.c p2.1))).bind fun p11 =>
        (op p11.2 (.bin .sub (.c p11.1) (.c x1))).bind fun p12 =>
        (op p12.2 (.appZ 2 5864062014805 (.agg [1, 1] [(.lit (.string ⟨#[]⟩)), (.lit (.int .i64 0))]) (.c p10.1) (.c p12.1))).bind fun p13 =>
        (op p13.2 (.slc 2 (.c p13.1) (some (.c x1)) none none)).bind fun p14 =>
        (op p14.2 (.cpy 2 (.c p14.1) (.c x2))).bind fun p15 =>
        (op p15.2 (.bin .add (.c x1) (.c p2.1))).bind fun p16 =>
        (op p15.2 (.slc 2 (.c p13.1) (some (.c p16.1)) none none)).bind fun p17 =>
        (op p15.2 (.slc 2 (.c x0) (some (.c x1)) none none)).bind fun p18 =>
        (op p15.2 (.cpy 2 (.c p17.1) (.c p18.1))).bind fun p19 =>
        fin [.v p13.1] p19.2)
        ((op p9.2 (.bin .add (.c p4.1) (.c p2.1))).bind fun p20 =>
        (op p20.2 (.slc 2 (.c x0) none (some (.c p20.1)) none)).bind fun p21 =>
        (op p21.2 (.bin .add (.c x1) (.c p2.1))).bind fun p22 =>
        (op p22.2 (.slc 2 (.c p21.1) (some (.c p22.1)) none none)).bind fun p23 =>
        (c.call 97 [x2, p23.1] p23.2).bind fun p24 =>
        (op p24.2 (.un .not (.c p24.1))).bind fun p25 =>
        cnd p25.1
          ((op p25.2 (.bin .add (.c x1) (.c p2.1))).bind fun p26 =>
          (op p25.2 (.slc 2 (.c p21.1) (some (.c p26.1)) none none)).bind fun p27 =>
          (op p25.2 (.slc 2 (.c p21.1) (some (.c x1)) none none)).bind fun p28 =>
          (op p25.2 (.cpy 2 (.c p27.1) (.c p28.1))).bind fun p29 =>
          (op p29.2 (.slc 2 (.c p21.1) (some (.c x1)) none none)).bind fun p30 =>
          (op p30.2 (.cpy 2 (.c p30.1) (.c x2))).bind fun p31 =>
          fin [.v p21.1] p31.2)
          ((op p25.2 (.slc 2 (.c p21.1) (some (.c p4.1)) none none)).bind fun p32 =>
          (op p32.2 (.cpy 2 (.c p32.1) (.c x2))).bind fun p33 =>
          (op p33.2 (.slc 2 (.c p21.1) (some (.c x1)) none none)).bind fun p34 =>
          (c.call 98 [p34.1, p2.1] p34.2).bind fun p35 =>
          fin [.v p21.1] p35.2)))) := by kernel_rfl
/-! slices.Delete[[]newsreel/api.Entry,newsreel/api.Entry] -/
theorem ok95 : a95.ok = true := by kernel_rfl
theorem e95 (c : Cx) (x0 x1 x2 : D) (h : Hp) : bodyA c a95 [x0, x1, x2] h =
  (op h (.len false (.c x0))).bind fun p1 =>
  (op p1.2 (.slc 2 (.c x0) (some (.c x1)) (some (.c x2)) (some (.c p1.1)))).bind fun p2 =>
  (op p2.2 (.bin .eql (.c x1) (.c x2))).bind fun p3 =>
  cnd p3.1
    (fin [.v x0] p3.2)
    ((op p3.2 (.len false (.c x0))).bind fun p4 =>
    (op p4.2 (.slc 2 (.c x0) none (some (.c x1)) none)).bind fun p5 =>
    (op p4.2 (.slc 2 (.c x0) (some (.c x2)) none none)).bind fun p6 =>
    (op p4.2 (.app 2 5864062014805 (.c p5.1) (.c p6.1))).bind fun p7 =>
    (op p7.2 (.len false (.c p7.1))).bind fun p8 =>
    (op p8.2 (.slc 2 (.c p7.1) (some (.c p8.1)) (some (.c p4.1)) none)).bind fun p9 =>
    (op p9.2 (.clr 2 (.agg [1, 1] [(.lit (.string ⟨#[]⟩)), (.lit (.int .i64 0))]) (.c p9.1))).bind fun p10 =>
    fin [.v p7.1] p10.2) := by kernel_rfl
/-! internal/bytealg.CompareString -/
theorem ok96 : a96.ok = true := by kernel_rfl
theorem e96 (c : Cx) (x0 x1 : D) (h : Hp) : bodyA c a96 [x0, x1] h =
  (c.call 99 [x0, x1] h).bind fun p1 =>
  fin [.v p1.1] p1.2 := by kernel_rfl
/-! slices.rotateRight[newsreel/api.Entry] -/
theorem ok98 : a98.ok = true := by kernel_rfl
theorem e98 (c : Cx) (x0 x1 : D) (h : Hp) : bodyA c a98 [x0, x1] h =
  (op h (.len false (.c x0))).bind fun p1 =>
  (op p1.2 (.bin .sub (.c p1.1) (.c x1))).bind fun p2 =>
  (c.call 100 [x0, p2.1] p2.2).bind fun p3 =>
  fin [] p3.2 := by kernel_rfl
/-! slices.rotateLeft[newsreel/api.Entry] -/
theorem ok100 : a100.ok = true := by kernel_rfl
theorem e100 (c : Cx) (x0 x1 : D) (h : Hp) : bodyA c a100 [x0, x1] h =
  (op h (.slc 2 (.c x0) none (some (.c x1)) none)).bind fun p1 =>
  (c.call 101 [p1.1] p1.2).bind fun p2 =>
  (op p2.2 (.slc 2 (.c x0) (some (.c x1)) none none)).bind fun p3 =>
  (c.call 101 [p3.1] p3.2).bind fun p4 =>
  (c.call 101 [x0] p4.2).bind fun p5 =>
  fin [] p5.2 := by kernel_rfl
/-! slices.Reverse[[]newsreel/api.Entry,newsreel/api.Entry] -/
theorem ok101 : a101.ok = true := by kernel_rfl
noncomputable def l101_1 (c : Cx) (v0 v2 v3 : D) (h : Hp) : Option (List D × Hp) := c.lp 13 (codeA [1, 0] a101.body).bodyOf (blockK 0 (finA a101)) ⟨[v0, und, v2, v3, und, und, und, und, und, und, und, und, und, und, und, und, und, und, und, und, und, und, und, und, und, und, und, und], h⟩
theorem l101_1_eq (c : Cx) (v0 v2 v3 : D) (h : Hp) : l101_1 c v0 v2 v3 h =
  (op h (.bin .lss (.c v2) (.c v3))).bind fun p3 =>
  cnd p3.1
    ((op p3.2 (.ia 2 (.c v0) (.c v3))).bind fun p4 =>
    (op p3.2 (.ld true 2 (.c p4.1))).bind fun p5 =>
    (op p3.2 (.ia 2 (.c v0) (.c v2))).bind fun p6 =>
    (op p3.2 (.ld true 2 (.c p6.1))).bind fun p7 =>
    (op p3.2 (.ia 2 (.c v0) (.c v2))).bind fun p8 =>
    (op p3.2 (.st 2 (.c p8.1) (.c p5.1))).bind fun p9 =>
    (op p9.2 (.ia 2 (.c v0) (.c v3))).bind fun p10 =>
    (op p9.2 (.st 2 (.c p10.1) (.c p7.1))).bind fun p11 =>
    (op p11.2 (.bin .add (.c v2) (.c (.lit (.int .i64 1))))).bind fun p12 =>
    (op p12.2 (.bin .sub (.c v3) (.c (.lit (.int .i64 1))))).bind fun p13 =>
    l101_1 c v0 p12.1 p13.1 p13.2)
    (fin [] p3.2) := loop_text (by kernel_rfl) (by kernel_rfl)
theorem e101 (c : Cx) (x0 : D) (h : Hp) : bodyA c a101 [x0] h =
  (op h (.len false (.c x0))).bind fun p1 =>
  (op p1.2 (.bin .sub (.c p1.1) (.c (.lit (.int .i64 1))))).bind fun p2 =>
  l101_1 c x0 (.lit (.int .i64 0)) p2.1 p2.2 := by kernel_rfl
end Go.Dk
