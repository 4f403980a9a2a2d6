/-
  A part of the symbolic machine, of its soundness, and of what functions compute. No condition.
-/
import Derived.Test.YtakbfbcfddcncaaE4
set_option linter.unusedSimpArgs false
set_option linter.unusedVariables false
/- Plans. -/
section
namespace Go.Eng
def p3_7 : Plan := .quiet 0 (.quiet 1 (.quiet 2 (.quiet 3 (.both (.both (.loud 4 [] (.quiet 5 (.quiet 6 (.quiet 7 (.quiet 8 (.quiet 9 (.both (.loud 10 [] (.loud 11 [] (.loud 12 [] (.loud 13 [] (.quiet 14 (.quiet 15 (.done))))))) (.loud 11 [] (.loud 10 [] (.loud 12 [] (.loud 13 [] (.quiet 14 (.quiet 15 (.done)))))))))))))) (.loud 10 [0, 3] (.both (.loud 4 [] (.quiet 5 (.quiet 6 (.quiet 7 (.quiet 8 (.quiet 9 (.loud 11 [] (.loud 12 [] (.loud 13 [] (.quiet 14 (.quiet 15 (.done)))))))))))) (.loud 11 [0, 3] (.loud 4 [] (.quiet 5 (.quiet 6 (.quiet 7 (.quiet 8 (.quiet 9 (.loud 12 [] (.loud 13 [] (.quiet 14 (.quiet 15 (.done))))))))))))))) (.loud 11 [0, 3] (.both (.loud 4 [] (.quiet 5 (.quiet 6 (.quiet 7 (.quiet 8 (.quiet 9 (.loud 10 [] (.loud 12 [] (.loud 13 [] (.quiet 14 (.quiet 15 (.done)))))))))))) (.loud 10 [0, 3] (.loud 4 [] (.quiet 5 (.quiet 6 (.quiet 7 (.quiet 8 (.quiet 9 (.loud 12 [] (.loud 13 [] (.quiet 14 (.quiet 15 (.done))))))))))))))))))
def p3_12 : Plan := .quiet 0 (.quiet 1 (.quiet 2 (.quiet 3 (.both (.both (.loud 4 [] (.quiet 5 (.quiet 6 (.quiet 7 (.quiet 8 (.quiet 9 (.both (.loud 10 [] (.loud 11 [] (.loud 12 [] (.loud 13 [] (.quiet 14 (.quiet 15 (.done))))))) (.loud 11 [] (.loud 10 [] (.loud 12 [] (.loud 13 [] (.quiet 14 (.quiet 15 (.done)))))))))))))) (.loud 10 [0, 3] (.both (.loud 4 [] (.quiet 5 (.quiet 6 (.quiet 7 (.quiet 8 (.quiet 9 (.loud 11 [] (.loud 12 [] (.loud 13 [] (.quiet 14 (.quiet 15 (.done)))))))))))) (.loud 11 [0, 3] (.loud 4 [] (.quiet 5 (.quiet 6 (.quiet 7 (.quiet 8 (.quiet 9 (.loud 12 [] (.loud 13 [] (.quiet 14 (.quiet 15 (.done))))))))))))))) (.loud 11 [0, 3] (.both (.loud 4 [] (.quiet 5 (.quiet 6 (.quiet 7 (.quiet 8 (.quiet 9 (.loud 10 [] (.loud 12 [] (.loud 13 [] (.quiet 14 (.quiet 15 (.done)))))))))))) (.loud 10 [0, 3] (.loud 4 [] (.quiet 5 (.quiet 6 (.quiet 7 (.quiet 8 (.quiet 9 (.loud 12 [] (.loud 13 [] (.quiet 14 (.quiet 15 (.done))))))))))))))))))
def p3_14 : Plan := .quiet 0 (.quiet 1 (.quiet 2 (.quiet 3 (.quiet 4 (.quiet 5 (.quiet 6 (.quiet 7 (.quiet 8 (.quiet 9 (.quiet 11 (.quiet 12 (.quiet 13 (.quiet 14 (.quiet 15 (.quiet 17 (.quiet 18 (.quiet 19 (.quiet 20 (.quiet 21 (.quiet 22 (.quiet 23 (.quiet 24 (.quiet 25 (.quiet 26 (.quiet 27 (.quiet 28 (.quiet 29 (.quiet 30 (.quiet 31 (.quiet 32 (.quiet 33 (.quiet 34 (.quiet 35 (.quiet 36 (.both (.loud 10 [0, 1, 2, 3, 12, 13, 14, 15, 17, 18, 19, 20, 22, 23, 24, 25, 27, 28, 29, 30, 32, 33, 34, 35] (.both (.loud 16 [0, 1, 2, 3, 17, 18, 19, 20, 22, 23, 24, 25, 27, 28, 29, 30, 32, 33, 34, 35] (.quiet 37 (.loud 38 [0, 1, 2, 3, 17, 18, 19, 20, 22, 23, 24, 25, 27, 28, 29, 30, 32, 33, 34, 35, 37] (.loud 39 [] (.done))))) (.loud 38 [0, 1, 2, 3, 12, 13, 14, 15, 17, 18, 19, 20, 22, 23, 24, 25, 27, 28, 29, 30, 32, 33, 34, 35] (.loud 16 [0, 1, 2, 3, 17, 18, 19, 20, 22, 23, 24, 25, 27, 28, 29, 30, 32, 33, 34, 35] (.quiet 37 (.loud 39 [] (.done))))))) (.loud 38 [0, 1, 2, 3, 6, 7, 8, 9, 12, 13, 14, 15, 17, 18, 19, 20, 22, 23, 24, 25, 27, 28, 29, 30, 32, 33, 34, 35] (.loud 10 [0, 1, 2, 3, 12, 13, 14, 15, 17, 18, 19, 20, 22, 23, 24, 25, 27, 28, 29, 30, 32, 33, 34, 35] (.loud 16 [0, 1, 2, 3, 17, 18, 19, 20, 22, 23, 24, 25, 27, 28, 29, 30, 32, 33, 34, 35] (.quiet 37 (.loud 39 [] (.done)))))))))))))))))))))))))))))))))))))))))
def p4_22 : Plan := .quiet 0 (.quiet 2 (.loud 1 [2] (.loud 3 [] (.quiet 4 (.quiet 5 (.quiet 6 (.quiet 7 (.quiet 8 (.quiet 9 (.quiet 10 (.quiet 11 (.quiet 12 (.quiet 13 (.quiet 14 (.quiet 15 (.quiet 16 (.quiet 17 (.quiet 18 (.quiet 19 (.quiet 20 (.quiet 21 (.quiet 22 (.loud 23 [] (.quiet 24 (.quiet 25 (.done))))))))))))))))))))))))))
def p5_15 : Plan := .quiet 0 (.quiet 1 (.quiet 2 (.quiet 3 (.quiet 4 (.quiet 5 (.quiet 6 (.quiet 7 (.quiet 8 (.quiet 9 (.quiet 10 (.quiet 11 (.quiet 12 (.quiet 13 (.quiet 14 (.quiet 15 (.quiet 16 (.quiet 17 (.quiet 18 (.quiet 19 (.quiet 20 (.quiet 21 (.quiet 22 (.quiet 23 (.quiet 24 (.quiet 25 (.quiet 26 (.quiet 27 (.quiet 28 (.quiet 29 (.done))))))))))))))))))))))))))))))
def p5_17 : Plan := .quiet 0 (.quiet 1 (.quiet 2 (.quiet 3 (.quiet 4 (.quiet 5 (.quiet 6 (.quiet 7 (.quiet 8 (.quiet 9 (.quiet 10 (.quiet 11 (.quiet 12 (.quiet 13 (.quiet 14 (.quiet 15 (.quiet 16 (.done)))))))))))))))))
def p5_22 : Plan := .quiet 0 (.quiet 1 (.quiet 2 (.quiet 3 (.quiet 4 (.quiet 5 (.quiet 6 (.quiet 7 (.quiet 8 (.quiet 9 (.quiet 10 (.quiet 11 (.quiet 12 (.quiet 13 (.quiet 14 (.quiet 15 (.quiet 16 (.quiet 17 (.quiet 18 (.quiet 19 (.quiet 20 (.quiet 21 (.quiet 22 (.quiet 23 (.quiet 24 (.quiet 25 (.quiet 26 (.quiet 27 (.done))))))))))))))))))))))))))))
def p6_29 : Plan := .quiet 0 (.quiet 1 (.quiet 2 (.quiet 3 (.quiet 4 (.quiet 5 (.quiet 6 (.quiet 7 (.quiet 8 (.done)))))))))
def p8_7 : Plan := .quiet 0 (.loud 1 [] (.quiet 2 (.quiet 3 (.quiet 4 (.quiet 5 (.quiet 6 (.quiet 7 (.quiet 8 (.quiet 9 (.quiet 10 (.quiet 11 (.quiet 12 (.quiet 13 (.quiet 14 (.quiet 15 (.loud 16 [14] (.quiet 17 (.quiet 18 (.quiet 19 (.quiet 20 (.quiet 21 (.quiet 22 (.quiet 23 (.quiet 24 (.quiet 25 (.quiet 26 (.quiet 27 (.quiet 28 (.quiet 29 (.quiet 30 (.quiet 31 (.quiet 32 (.quiet 33 (.quiet 34 (.quiet 35 (.quiet 36 (.quiet 37 (.quiet 38 (.quiet 39 (.quiet 40 (.quiet 41 (.quiet 42 (.quiet 43 (.quiet 44 (.quiet 45 (.quiet 46 (.quiet 47 (.quiet 48 (.quiet 49 (.quiet 50 (.quiet 51 (.quiet 52 (.quiet 53 (.quiet 54 (.quiet 55 (.quiet 56 (.quiet 57 (.quiet 58 (.quiet 59 (.quiet 60 (.quiet 61 (.quiet 62 (.quiet 63 (.quiet 64 (.quiet 65 (.quiet 66 (.quiet 67 (.quiet 68 (.quiet 69 (.quiet 70 (.done)))))))))))))))))))))))))))))))))))))))))))))))))))))))))))))))))))))))
def p8_20 : Plan := .quiet 0 (.quiet 1 (.quiet 2 (.quiet 3 (.quiet 4 (.quiet 5 (.quiet 6 (.quiet 7 (.quiet 8 (.quiet 9 (.quiet 10 (.quiet 11 (.quiet 12 (.quiet 13 (.quiet 14 (.quiet 15 (.quiet 16 (.quiet 17 (.quiet 18 (.quiet 19 (.quiet 20 (.done)))))))))))))))))))))
def p11_2 : Plan := .quiet 0 (.quiet 1 (.quiet 2 (.both (.both (.loud 3 [] (.quiet 4 (.quiet 5 (.quiet 6 (.quiet 7 (.quiet 8 (.both (.loud 9 [] (.loud 10 [] (.loud 11 [] (.loud 12 [] (.quiet 13 (.quiet 14 (.done))))))) (.loud 10 [] (.loud 9 [] (.loud 11 [] (.loud 12 [] (.quiet 13 (.quiet 14 (.done)))))))))))))) (.loud 9 [0, 2] (.both (.loud 3 [] (.quiet 4 (.quiet 5 (.quiet 6 (.quiet 7 (.quiet 8 (.loud 10 [] (.loud 11 [] (.loud 12 [] (.quiet 13 (.quiet 14 (.done)))))))))))) (.loud 10 [0, 2] (.loud 3 [] (.quiet 4 (.quiet 5 (.quiet 6 (.quiet 7 (.quiet 8 (.loud 11 [] (.loud 12 [] (.quiet 13 (.quiet 14 (.done))))))))))))))) (.loud 10 [0, 2] (.both (.loud 3 [] (.quiet 4 (.quiet 5 (.quiet 6 (.quiet 7 (.quiet 8 (.loud 9 [] (.loud 11 [] (.loud 12 [] (.quiet 13 (.quiet 14 (.done)))))))))))) (.loud 9 [0, 2] (.loud 3 [] (.quiet 4 (.quiet 5 (.quiet 6 (.quiet 7 (.quiet 8 (.loud 11 [] (.loud 12 [] (.quiet 13 (.quiet 14 (.done)))))))))))))))))
def p11_3 : Plan := .quiet 0 (.quiet 1 (.quiet 2 (.both (.both (.loud 3 [] (.quiet 4 (.quiet 5 (.quiet 6 (.quiet 7 (.quiet 8 (.both (.loud 9 [] (.loud 10 [] (.loud 11 [] (.loud 12 [] (.quiet 13 (.quiet 14 (.done))))))) (.loud 10 [] (.loud 9 [] (.loud 11 [] (.loud 12 [] (.quiet 13 (.quiet 14 (.done)))))))))))))) (.loud 9 [0, 2] (.both (.loud 3 [] (.quiet 4 (.quiet 5 (.quiet 6 (.quiet 7 (.quiet 8 (.loud 10 [] (.loud 11 [] (.loud 12 [] (.quiet 13 (.quiet 14 (.done)))))))))))) (.loud 10 [0, 2] (.loud 3 [] (.quiet 4 (.quiet 5 (.quiet 6 (.quiet 7 (.quiet 8 (.loud 11 [] (.loud 12 [] (.quiet 13 (.quiet 14 (.done))))))))))))))) (.loud 10 [0, 2] (.both (.loud 3 [] (.quiet 4 (.quiet 5 (.quiet 6 (.quiet 7 (.quiet 8 (.loud 9 [] (.loud 11 [] (.loud 12 [] (.quiet 13 (.quiet 14 (.done)))))))))))) (.loud 9 [0, 2] (.loud 3 [] (.quiet 4 (.quiet 5 (.quiet 6 (.quiet 7 (.quiet 8 (.loud 11 [] (.loud 12 [] (.quiet 13 (.quiet 14 (.done)))))))))))))))))
def p13_5 : Plan := .quiet 0 (.loud 1 [0] (.loud 2 [] (.quiet 3 (.quiet 4 (.quiet 5 (.quiet 6 (.quiet 7 (.quiet 8 (.quiet 9 (.quiet 10 (.quiet 11 (.quiet 12 (.quiet 13 (.quiet 14 (.quiet 15 (.quiet 16 (.quiet 17 (.loud 18 [] (.loud 19 [] (.quiet 20 (.quiet 21 (.quiet 22 (.quiet 23 (.quiet 24 (.quiet 25 (.quiet 26 (.quiet 27 (.quiet 28 (.quiet 29 (.quiet 30 (.quiet 31 (.quiet 32 (.quiet 33 (.done))))))))))))))))))))))))))))))))))
def p14_2 : Plan := .quiet 0 (.quiet 1 (.loud 2 [1] (.loud 3 [] (.quiet 4 (.loud 5 [] (.done))))))
def p14_4 : Plan := .quiet 0 (.quiet 1 (.loud 2 [1] (.loud 3 [] (.quiet 4 (.loud 5 [] (.done))))))
def p14_12 : Plan := .quiet 0 (.quiet 1 (.quiet 2 (.quiet 3 (.quiet 4 (.quiet 5 (.loud 6 [] (.done)))))))
def p14_15 : Plan := .quiet 0 (.quiet 1 (.quiet 2 (.quiet 3 (.quiet 4 (.quiet 5 (.quiet 6 (.quiet 7 (.quiet 8 (.loud 9 [6, 7] (.loud 10 [] (.quiet 11 (.loud 12 [] (.done)))))))))))))
def p17_6 : Plan := .quiet 0 (.quiet 1 (.quiet 2 (.quiet 3 (.quiet 4 (.quiet 5 (.quiet 6 (.quiet 7 (.quiet 8 (.quiet 9 (.both (.loud 10 [0, 1, 3, 4, 5, 6, 8, 9] (.loud 11 [0, 1, 3, 4, 5, 6, 8, 9] (.loud 12 [5, 6, 8, 9] (.loud 13 [] (.done))))) (.loud 11 [0, 1, 3, 4, 5, 6, 8, 9] (.loud 10 [0, 1, 3, 4, 5, 6, 8, 9] (.loud 12 [5, 6, 8, 9] (.loud 13 [] (.done)))))))))))))))
def p17_12 : Plan := .quiet 0 (.quiet 1 (.quiet 2 (.quiet 3 (.quiet 4 (.quiet 5 (.quiet 6 (.quiet 7 (.quiet 8 (.quiet 9 (.quiet 10 (.done)))))))))))
def p20_9 : Plan := .quiet 0 (.quiet 1 (.quiet 2 (.quiet 3 (.quiet 4 (.both (.loud 5 [] (.quiet 6 (.quiet 7 (.quiet 8 (.loud 9 [] (.loud 10 [] (.quiet 11 (.done)))))))) (.loud 9 [0, 3, 4] (.loud 5 [] (.quiet 6 (.quiet 7 (.quiet 8 (.loud 10 [] (.quiet 11 (.done)))))))))))))
def p20_13 : Plan := .quiet 0 (.quiet 1 (.quiet 2 (.quiet 3 (.quiet 4 (.quiet 5 (.loud 6 [2, 3, 5] (.loud 7 [5] (.quiet 8 (.quiet 9 (.done))))))))))
def p21_7 : Plan := .quiet 0 (.quiet 1 (.quiet 2 (.loud 3 [0] (.loud 4 [] (.loud 5 [] (.done))))))
def p23_8 : Plan := .quiet 0 (.quiet 1 (.quiet 2 (.quiet 3 (.quiet 4 (.quiet 5 (.quiet 6 (.quiet 7 (.quiet 8 (.quiet 9 (.loud 10 [] (.loud 11 [] (.done))))))))))))
def p25_6 : Plan := .quiet 0 (.quiet 1 (.quiet 2 (.quiet 3 (.quiet 4 (.loud 5 [0] (.quiet 6 (.quiet 7 (.done))))))))
def p27_6 : Plan := .quiet 0 (.quiet 1 (.quiet 2 (.quiet 3 (.quiet 4 (.quiet 5 (.quiet 6 (.quiet 7 (.quiet 8 (.done)))))))))
def p33_3 : Plan := .quiet 0 (.quiet 1 (.quiet 2 (.quiet 3 (.quiet 4 (.quiet 5 (.quiet 6 (.loud 7 [] (.done))))))))
def p33_7 : Plan := .quiet 0 (.quiet 1 (.quiet 2 (.quiet 3 (.quiet 4 (.quiet 5 (.quiet 6 (.quiet 7 (.loud 8 [2, 3, 4] (.quiet 9 (.quiet 10 (.loud 11 [] (.done))))))))))))
def p40_1 : Plan := .quiet 0 (.quiet 1 (.quiet 2 (.quiet 3 (.both (.loud 4 [0, 1, 2, 3] (.loud 5 [0, 1, 2, 3] (.loud 6 [2, 3] (.loud 7 [] (.done))))) (.loud 5 [0, 1, 2, 3] (.loud 4 [0, 1, 2, 3] (.loud 6 [2, 3] (.loud 7 [] (.done)))))))))
def p40_24 : Plan := .quiet 0 (.quiet 1 (.quiet 2 (.quiet 3 (.quiet 4 (.quiet 5 (.quiet 6 (.quiet 7 (.quiet 8 (.loud 9 [0, 1, 4, 5, 6] (.quiet 10 (.quiet 11 (.done))))))))))))
def p40_33 : Plan := .quiet 0 (.quiet 1 (.quiet 2 (.quiet 3 (.loud 4 [1, 2] (.quiet 5 (.loud 6 [] (.quiet 7 (.quiet 8 (.quiet 9 (.quiet 10 (.quiet 11 (.done))))))))))))
def p40_38 : Plan := .quiet 0 (.quiet 1 (.quiet 2 (.quiet 3 (.quiet 4 (.quiet 5 (.loud 6 [] (.quiet 7 (.loud 8 [] (.done)))))))))
def p52_2 : Plan := .quiet 0 (.quiet 1 (.loud 2 [] (.quiet 3 (.quiet 4 (.quiet 5 (.quiet 6 (.quiet 7 (.quiet 8 (.quiet 9 (.quiet 10 (.quiet 11 (.quiet 12 (.loud 13 [] (.quiet 14 (.quiet 15 (.quiet 16 (.quiet 17 (.quiet 18 (.quiet 21 (.quiet 22 (.loud 19 [21, 22] (.quiet 20 (.quiet 23 (.quiet 24 (.quiet 25 (.done))))))))))))))))))))))))))
def p54_2 : Plan := .quiet 0 (.quiet 1 (.quiet 2 (.quiet 3 (.quiet 4 (.quiet 5 (.quiet 6 (.quiet 7 (.quiet 8 (.loud 9 [] (.done))))))))))
def p54_3 : Plan := .quiet 0 (.quiet 1 (.quiet 2 (.quiet 3 (.quiet 4 (.quiet 5 (.quiet 6 (.loud 7 [] (.loud 8 [] (.done)))))))))
def p55_4 : Plan := .quiet 0 (.quiet 1 (.quiet 2 (.quiet 3 (.quiet 6 (.quiet 7 (.quiet 8 (.quiet 9 (.quiet 10 (.quiet 11 (.quiet 12 (.quiet 13 (.loud 4 [6, 7, 10, 11, 12] (.quiet 5 (.quiet 14 (.quiet 15 (.quiet 16 (.done)))))))))))))))))
def p55_8 : Plan := .quiet 0 (.quiet 1 (.quiet 2 (.quiet 3 (.quiet 4 (.quiet 5 (.quiet 6 (.quiet 7 (.quiet 8 (.quiet 9 (.quiet 10 (.quiet 11 (.quiet 12 (.quiet 13 (.done))))))))))))))
def p55_13 : Plan := .quiet 0 (.quiet 1 (.quiet 2 (.quiet 3 (.quiet 4 (.quiet 5 (.quiet 6 (.quiet 7 (.quiet 8 (.quiet 9 (.quiet 10 (.loud 11 [] (.done))))))))))))
def p56_3 : Plan := .quiet 0 (.quiet 1 (.quiet 2 (.quiet 3 (.quiet 4 (.quiet 5 (.quiet 6 (.loud 7 [1, 2] (.quiet 8 (.quiet 9 (.loud 10 [] (.done)))))))))))
def p56_5 : Plan := .quiet 0 (.quiet 1 (.quiet 2 (.quiet 3 (.quiet 4 (.quiet 5 (.quiet 6 (.loud 7 [0] (.quiet 8 (.quiet 9 (.quiet 10 (.loud 11 [] (.done))))))))))))
def p57_2 : Plan := .quiet 0 (.quiet 1 (.quiet 2 (.quiet 3 (.quiet 4 (.quiet 5 (.quiet 6 (.quiet 7 (.quiet 8 (.quiet 9 (.loud 10 [] (.done)))))))))))
def p57_4 : Plan := .quiet 0 (.quiet 1 (.quiet 2 (.quiet 3 (.quiet 4 (.quiet 5 (.quiet 6 (.quiet 7 (.quiet 9 (.quiet 10 (.quiet 11 (.quiet 12 (.quiet 13 (.quiet 14 (.loud 8 [11, 12, 13, 14] (.loud 15 [] (.quiet 16 (.quiet 17 (.quiet 18 (.loud 19 [] (.quiet 20 (.quiet 21 (.quiet 22 (.loud 23 [] (.done))))))))))))))))))))))))
def p58_2 : Plan := .quiet 0 (.quiet 1 (.quiet 2 (.quiet 3 (.quiet 4 (.quiet 5 (.quiet 6 (.quiet 7 (.quiet 8 (.loud 9 [] (.done))))))))))
def p58_3 : Plan := .quiet 0 (.quiet 1 (.quiet 2 (.quiet 3 (.quiet 4 (.quiet 5 (.quiet 6 (.quiet 7 (.quiet 8 (.quiet 9 (.quiet 10 (.quiet 11 (.quiet 12 (.loud 13 [] (.done))))))))))))))
def p58_4 : Plan := .quiet 0 (.quiet 1 (.quiet 2 (.quiet 3 (.quiet 4 (.quiet 5 (.quiet 6 (.quiet 7 (.quiet 8 (.quiet 9 (.quiet 10 (.loud 11 [] (.done))))))))))))
def p58_5 : Plan := .quiet 0 (.quiet 1 (.quiet 2 (.quiet 3 (.quiet 4 (.quiet 5 (.quiet 6 (.quiet 7 (.quiet 8 (.done)))))))))
def p58_7 : Plan := .quiet 0 (.quiet 1 (.quiet 2 (.quiet 3 (.quiet 4 (.quiet 5 (.quiet 6 (.quiet 7 (.quiet 8 (.quiet 9 (.quiet 10 (.quiet 11 (.quiet 12 (.quiet 13 (.quiet 14 (.quiet 15 (.loud 16 [] (.done)))))))))))))))))
def p59_2 : Plan := .quiet 0 (.quiet 1 (.quiet 2 (.quiet 3 (.quiet 4 (.quiet 5 (.quiet 6 (.quiet 7 (.quiet 8 (.done)))))))))
def p59_4 : Plan := .quiet 0 (.quiet 1 (.quiet 2 (.quiet 3 (.quiet 4 (.quiet 5 (.quiet 6 (.quiet 7 (.quiet 8 (.quiet 9 (.quiet 10 (.loud 11 [] (.done))))))))))))
def p59_5 : Plan := .quiet 0 (.quiet 1 (.quiet 2 (.quiet 3 (.quiet 4 (.quiet 5 (.quiet 6 (.quiet 7 (.quiet 8 (.quiet 9 (.quiet 10 (.quiet 11 (.quiet 12 (.loud 13 [] (.done))))))))))))))
def p62_4 : Plan := .quiet 0 (.quiet 1 (.quiet 2 (.quiet 3 (.quiet 4 (.quiet 5 (.quiet 6 (.quiet 7 (.quiet 8 (.quiet 9 (.quiet 10 (.loud 11 [1, 2, 5, 6, 7, 8, 10] (.loud 12 [] (.done)))))))))))))
def p63_4 : Plan := .quiet 1 (.quiet 2 (.quiet 3 (.quiet 4 (.quiet 5 (.quiet 6 (.quiet 8 (.both (.loud 0 [1, 2, 4, 5, 6, 8] (.both (.loud 7 [8] (.loud 9 [] (.loud 10 [] (.quiet 11 (.done))))) (.loud 9 [1, 2, 4, 5, 6] (.loud 7 [] (.loud 10 [] (.quiet 11 (.done))))))) (.loud 9 [1, 2, 4, 5, 6] (.loud 0 [1, 2, 4, 5, 6] (.loud 7 [] (.loud 10 [] (.quiet 11 (.done)))))))))))))
def p63_5 : Plan := .quiet 0 (.quiet 1 (.quiet 3 (.quiet 4 (.quiet 5 (.quiet 6 (.quiet 7 (.quiet 8 (.loud 2 [3, 4, 6, 7, 8] (.quiet 9 (.quiet 10 (.loud 11 [] (.quiet 12 (.quiet 13 (.quiet 14 (.quiet 15 (.quiet 16 (.done)))))))))))))))))
def p63_8 : Plan := .quiet 0 (.quiet 1 (.quiet 2 (.quiet 3 (.quiet 4 (.quiet 5 (.quiet 6 (.quiet 7 (.quiet 8 (.quiet 9 (.quiet 10 (.quiet 11 (.quiet 12 (.quiet 13 (.loud 14 [3] (.loud 15 [3] (.loud 16 [] (.quiet 17 (.done))))))))))))))))))
def p63_13 : Plan := .quiet 0 (.quiet 1 (.quiet 2 (.quiet 3 (.quiet 4 (.quiet 5 (.quiet 6 (.loud 7 [] (.loud 8 [] (.done)))))))))
def p71_2 : Plan := .quiet 0 (.quiet 1 (.quiet 2 (.quiet 3 (.quiet 4 (.quiet 5 (.quiet 6 (.loud 7 [] (.quiet 8 (.quiet 9 (.quiet 10 (.loud 11 [] (.done))))))))))))
def p71_4 : Plan := .quiet 0 (.quiet 1 (.quiet 2 (.quiet 3 (.quiet 4 (.quiet 5 (.loud 6 [3, 4] (.loud 7 [] (.quiet 8 (.quiet 9 (.loud 10 [] (.done)))))))))))
def p71_5 : Plan := .quiet 0 (.quiet 1 (.quiet 2 (.quiet 3 (.quiet 4 (.quiet 7 (.quiet 8 (.quiet 9 (.quiet 10 (.loud 5 [9, 10] (.quiet 6 (.quiet 11 (.quiet 12 (.loud 13 [] (.loud 14 [] (.quiet 15 (.done))))))))))))))))
def p71_8 : Plan := .quiet 0 (.quiet 1 (.quiet 2 (.quiet 3 (.quiet 4 (.quiet 5 (.quiet 6 (.quiet 7 (.quiet 8 (.quiet 9 (.quiet 10 (.quiet 11 (.quiet 12 (.quiet 13 (.quiet 14 (.quiet 15 (.quiet 16 (.quiet 17 (.quiet 18 (.quiet 19 (.quiet 20 (.quiet 21 (.loud 22 [2, 3] (.quiet 23 (.loud 24 [] (.done)))))))))))))))))))))))))
def p72_3 : Plan := .quiet 0 (.quiet 1 (.quiet 2 (.quiet 3 (.quiet 4 (.quiet 5 (.quiet 6 (.quiet 7 (.quiet 8 (.quiet 9 (.quiet 10 (.quiet 11 (.quiet 12 (.loud 13 [] (.done))))))))))))))
def p72_4 : Plan := .quiet 0 (.quiet 1 (.quiet 2 (.quiet 3 (.quiet 4 (.quiet 5 (.quiet 6 (.quiet 7 (.quiet 8 (.quiet 9 (.quiet 10 (.quiet 11 (.quiet 12 (.quiet 13 (.quiet 14 (.quiet 15 (.quiet 16 (.quiet 17 (.loud 18 [13, 14] (.quiet 19 (.quiet 20 (.loud 21 [] (.done))))))))))))))))))))))
def p73_1 : Plan := .quiet 0 (.quiet 1 (.quiet 2 (.quiet 3 (.quiet 4 (.quiet 5 (.quiet 6 (.quiet 7 (.quiet 8 (.loud 9 [] (.loud 10 [] (.done)))))))))))
def p73_2 : Plan := .quiet 0 (.quiet 1 (.quiet 2 (.quiet 3 (.quiet 4 (.quiet 5 (.quiet 6 (.quiet 7 (.quiet 8 (.done)))))))))
def p78_1 : Plan := .quiet 0 (.quiet 1 (.quiet 2 (.quiet 3 (.quiet 4 (.quiet 5 (.quiet 6 (.quiet 7 (.quiet 8 (.quiet 9 (.quiet 10 (.quiet 11 (.quiet 12 (.quiet 13 (.both (.loud 14 [] (.loud 15 [] (.loud 16 [] (.done)))) (.loud 15 [0, 2, 3, 4, 5, 6, 8, 9, 10, 11, 12, 13] (.loud 14 [] (.loud 16 [] (.done))))))))))))))))))
def p78_4 : Plan := .quiet 0 (.quiet 1 (.quiet 2 (.quiet 3 (.quiet 4 (.quiet 5 (.quiet 6 (.quiet 7 (.quiet 8 (.quiet 9 (.quiet 10 (.quiet 11 (.quiet 12 (.quiet 13 (.quiet 14 (.quiet 15 (.quiet 16 (.quiet 17 (.loud 18 [] (.done)))))))))))))))))))
end Go.Eng
end

/- brine: what is stored and bought, hour by hour. The plain law. -/
section
namespace Go.Eng
theorem wrap_id {x : Int} (h1 : -9223372036854775808 ≤ x) (h2 : x ≤ 9223372036854775807) : IntKind.i64.wrap x = x := by
  simp [IntKind.wrap, IntKind.signed, IntKind.bits]
  omega
/-- What is stored ahead of hour i. -/
def stR (c d : Nat → Int) (room s : Int) : Nat → Int
  | 0 => s
  | i + 1 => min (stR c d room s i + c i - min (stR c d room s i + c i) (d i)) room
/-- What is bought in hour i. -/
def boR (c d : Nat → Int) (room s : Int) (i : Nat) : Int := d i - min (stR c d room s i + c i) (d i)
/-- What went into the air ahead of hour i. -/
def aiR (c d : Nat → Int) (room s : Int) : Nat → Int
  | 0 => 0
  | i + 1 => aiR c d room s i + max 0 (stR c d room s i + c i - min (stR c d room s i + c i) (d i) - room)
/-- What is bought in all of the first hours. -/
def suR (c d : Nat → Int) (room s : Int) : Nat → Int
  | 0 => 0
  | i + 1 => suR c d room s i + boR c d room s i
def big32 (x : Int) : Prop := 0 ≤ x ∧ x ≤ 4294967296
theorem stR_bd {c d : Nat → Int} {room s : Int} {n : Nat} (hc : ∀ i, i < n → big32 (c i)) (hd : ∀ i, i < n → big32 (d i)) (hs : 0 ≤ s) (hr : s ≤ room) : ∀ i, i ≤ n → 0 ≤ stR c d room s i ∧ stR c d room s i ≤ room
  | 0, _ => ⟨hs, hr⟩
  | i + 1, hi => by
    have h1 := stR_bd hc hd hs hr i (by omega)
    have h2 := hc i (by omega)
    have h3 := hd i (by omega)
    unfold big32 at h2 h3
    simp only [stR]
    omega
/-- More room leaves no less, and buys no more. -/
theorem stR_mono {c d : Nat → Int} {r r' s : Int} (h : r ≤ r') : ∀ i, stR c d r s i ≤ stR c d r' s i
  | 0 => Int.le_refl _
  | i + 1 => by
    have := stR_mono (c := c) (d := d) (s := s) h i
    simp only [stR]
    omega
theorem boR_mono {c d : Nat → Int} {r r' s : Int} (h : r ≤ r') (i : Nat) : boR c d r' s i ≤ boR c d r s i := by
  have := stR_mono (c := c) (d := d) (s := s) h i
  simp only [boR]
  omega
theorem suR_mono {c d : Nat → Int} {r r' s : Int} (h : r ≤ r') : ∀ i, suR c d r' s i ≤ suR c d r s i
  | 0 => Int.le_refl _
  | i + 1 => by
    have h1 := suR_mono (c := c) (d := d) (s := s) h i
    have h2 := boR_mono (c := c) (d := d) (s := s) h i
    simp only [suR]
    omega
theorem boR_bd {c d : Nat → Int} {room s : Int} {n : Nat} (hc : ∀ i, i < n → big32 (c i)) (hd : ∀ i, i < n → big32 (d i)) (hs : 0 ≤ s) (hr : s ≤ room) (i : Nat) (hi : i < n) : 0 ≤ boR c d room s i ∧ boR c d room s i ≤ 4294967296 := by
  have h1 := stR_bd hc hd hs hr i (by omega)
  have h2 := hc i hi
  have h3 := hd i hi
  unfold big32 at h2 h3
  simp only [boR]
  omega
theorem suR_bd {c d : Nat → Int} {room s : Int} {n : Nat} (hc : ∀ i, i < n → big32 (c i)) (hd : ∀ i, i < n → big32 (d i)) (hs : 0 ≤ s) (hr : s ≤ room) : ∀ i, i ≤ n → 0 ≤ suR c d room s i ∧ suR c d room s i ≤ 4294967296 * i
  | 0, _ => by simp [suR]
  | i + 1, hi => by
    have h1 := suR_bd hc hd hs hr i (by omega)
    have h2 := boR_bd hc hd hs hr i (by omega)
    simp only [suR]
    omega
theorem aiR_bd {c d : Nat → Int} {room s : Int} {n : Nat} (hc : ∀ i, i < n → big32 (c i)) (hd : ∀ i, i < n → big32 (d i)) (hs : 0 ≤ s) (hr : s ≤ room) : ∀ i, i ≤ n → 0 ≤ aiR c d room s i ∧ aiR c d room s i ≤ 4294967296 * i
  | 0, _ => by simp [aiR]
  | i + 1, hi => by
    have h1 := aiR_bd hc hd hs hr i (by omega)
    have h2 := stR_bd hc hd hs hr i (by omega)
    have h3 := hc i (by omega)
    have h4 := hd i (by omega)
    unfold big32 at h3 h4
    simp only [aiR]
    omega
/- ### the least of those that a rule holds for from some one on -/
theorem least_one {f : Int → Bool} {a b : Int} (ha : f a = true) (ha2 : ∀ x, x < a → f x = false) (hb : f b = true) (hb2 : ∀ x, x < b → f x = false) : a = b := by
  rcases Int.lt_trichotomy a b with h | h | h
  · rw [hb2 a h] at ha; cases ha
  · exact h
  · rw [ha2 b h] at hb; cases hb
end Go.Eng
end

/- brine: lists of ints: what is wrong with them, and reuse. -/
section
namespace Go.Eng
open Go Go.RowKit Go.Proofs
set_option maxRecDepth 100000
set_option maxHeartbeats 4000000
attribute [local irreducible] OwnT DefS
def in3 (n lo hi : Int) : Bool := decide (lo ≤ n) && decide (n ≤ hi)
theorem in3_iff {n lo hi : Int} : in3 n lo hi = true ↔ lo ≤ n ∧ n ≤ hi := by simp [in3]
def withinBase : BaseF := fun args => match args with
  | [.int .i64 n, .int .i64 lo, .int .i64 hi] => some (True, .bool (in3 n lo hi))
  | _ => none
theorem within_eq (n : Int) (lo : Int) (hi : Int) : withinBase [.int .i64 n, .int .i64 lo, .int .i64 hi] = some (True, .bool (in3 n lo hi)) := rfl
theorem within_base : Base Try.prog 36 withinBase := by
  intro args p v hq hp
  unfold withinBase at hq
  split at hq
  rotate_left
  · cases hq
  rename_i n lo hi
  cases hq
  refine base_of (C := cx [] [] [] [] none) (cx_ok trivial trivial) rfl (g := 36) (fn := Try.f36)
    (args' := [.int .i64 n, .int .i64 lo, .int .i64 hi]) (fn_36) rfl 1000 (by simp only [BdL, Bd, and_self, and_true, true_and]) ⟨SameD.rfl' _, SameD.rfl' _, SameD.rfl' _, trivial⟩ ?_
  simp only [Try.f36, go_sem, ↓reduceIte, Nat.reduceAdd, Nat.reduceSub, Nat.reduceMul, Nat.reduceEqDiff, Nat.reduceLT, Nat.reduceLeDiff, Int.reduceToNat, Int.reduceLE, Int.reduceLT, Int.reduceEq, Int.reduceNeg, reduceCtorEq]
  (repeat' refine And.intro (fun _ => ?_) (fun _ => ?_)) <;> simp_all [in3] <;> omega
def inBase : BaseF := fun args => match args with
  | [.int .i64 n, .int .i64 lo, .int .i64 hi] => some (True, .bool (in3 n lo hi))
  | _ => none
theorem in_eq (n : Int) (lo : Int) (hi : Int) : inBase [.int .i64 n, .int .i64 lo, .int .i64 hi] = some (True, .bool (in3 n lo hi)) := rfl
theorem in_base : Base Try.prog 37 inBase := by
  intro args p v hq hp
  unfold inBase at hq
  split at hq
  rotate_left
  · cases hq
  rename_i n lo hi
  cases hq
  refine base_of (C := cx [] [] [] [] none) (cx_ok trivial trivial) rfl (g := 37) (fn := Try.f37)
    (args' := [.int .i64 n, .int .i64 lo, .int .i64 hi]) (fn_37) rfl 1000 (by simp only [BdL, Bd, and_self, and_true, true_and]) ⟨SameD.rfl' _, SameD.rfl' _, SameD.rfl' _, trivial⟩ ?_
  simp only [Try.f37, go_sem, ↓reduceIte, Nat.reduceAdd, Nat.reduceSub, Nat.reduceMul, Nat.reduceEqDiff, Nat.reduceLT, Nat.reduceLeDiff, Int.reduceToNat, Int.reduceLE, Int.reduceLT, Int.reduceEq, Int.reduceNeg, reduceCtorEq]
  (repeat' refine And.intro (fun _ => ?_) (fun _ => ?_)) <;> simp_all [in3] <;> omega
def isHeatBase : BaseF := fun args => match args with
  | [.int .i64 n] => some (True, .bool (in3 n 0 4294967296))
  | _ => none
theorem isHeat_eq (n : Int) : isHeatBase [.int .i64 n] = some (True, .bool (in3 n 0 4294967296)) := rfl
theorem isHeat_base : Base Try.prog 49 isHeatBase := by
  intro args p v hq hp
  unfold isHeatBase at hq
  split at hq
  rotate_left
  · cases hq
  rename_i n
  cases hq
  refine base_of (C := cx [] [] [(36, withinBase)] [] none) (cx_ok trivial ⟨within_base, trivial⟩) rfl (g := 49) (fn := Try.f49)
    (args' := [.int .i64 n]) (fn_49) rfl 1000 (by simp only [BdL, Bd, and_self, and_true, true_and]) ⟨SameD.rfl' _, trivial⟩ ?_
  simp only [within_eq, Try.f49, go_sem, ↓reduceIte, Nat.reduceAdd, Nat.reduceSub, Nat.reduceMul, Nat.reduceEqDiff, Nat.reduceLT, Nat.reduceLeDiff, Int.reduceToNat, Int.reduceLE, Int.reduceLT, Int.reduceEq, Int.reduceNeg, reduceCtorEq]
def notHeatBase : BaseF := fun args => match args with
  | [.int .i64 n] => some (True, .bool (!in3 n 0 4294967296))
  | _ => none
theorem notHeat_eq (n : Int) : notHeatBase [.int .i64 n] = some (True, .bool (!in3 n 0 4294967296)) := rfl
theorem notHeat_base : Base Try.prog 60 notHeatBase := by
  intro args p v hq hp
  unfold notHeatBase at hq
  split at hq
  rotate_left
  · cases hq
  rename_i n
  cases hq
  refine base_of (C := cx [] [] [(49, isHeatBase)] [] none) (cx_ok trivial ⟨isHeat_base, trivial⟩) rfl (g := 60) (fn := Try.f60)
    (args' := [.int .i64 n]) (fn_60) rfl 1000 (by simp only [BdL, Bd, and_self, and_true, true_and]) ⟨SameD.rfl' _, trivial⟩ ?_
  simp only [isHeat_eq, Try.f60, go_sem, ↓reduceIte, Nat.reduceAdd, Nat.reduceSub, Nat.reduceMul, Nat.reduceEqDiff, Nat.reduceLT, Nat.reduceLeDiff, Int.reduceToNat, Int.reduceLE, Int.reduceLT, Int.reduceEq, Int.reduceNeg, reduceCtorEq]
end Go.Eng
end

/- brine: reuse. -/
section
namespace Go.Eng
open Go Go.RowKit Go.Proofs
set_option maxRecDepth 100000
set_option maxHeartbeats 4000000
attribute [local irreducible] OwnT DefS
theorem wrap_s {i n : Nat} (h : i < n) (hn : n ≤ 1000000) : IntKind.i64.wrap ((i : Int) + 1) = ((i + 1 : Nat) : Int) := by rw [wrap_id (by omega) (by omega)]; omega
theorem cat_one {F : Nat → SV} {f : Nat → Nat → SV} {i : Nat} {w : SV} (hf : ∀ a, a < i → f a 0 = F a) (hw : w = F i) : ∀ a b, a < i + 1 → b < 1 → catF i f (oneF [w]) a b = F a := fun a b ha hb => by
  obtain rfl : b = 0 := by omega
  rcases Nat.lt_or_ge a i with h | h
  · simp only [catF, if_pos h]; exact hf a h
  · obtain rfl : a = i := by omega
    simp only [catF, if_neg (Nat.lt_irrefl _), Nat.sub_self, oneF, nth, hw]
def reuseBase : BaseF := fun args => match args with
  | [.row n sz_c f_c, .row m sz_d f_d, .int .i64 s, .int .i64 r] => some ((sz_c = 1 ∧ IntR n 1 f_c) ∧ (sz_d = 1 ∧ IntR m 1 f_d) ∧ (n ≤ 200 ∧ m = n ∧ (∀ i, i < n → big32 ((ivf f_c) i 0)) ∧ (∀ i, i < n → big32 ((ivf f_d) i 0)) ∧ 0 ≤ s ∧ s ≤ r ∧ r ≤ 4294967296), .tup [.row n 1 (fun i _ => .int .i64 (boR (fun i => (ivf f_c) i 0) (fun i => (ivf f_d) i 0) r s i)), .int .i64 (stR (fun i => (ivf f_c) i 0) (fun i => (ivf f_d) i 0) r s n), .int .i64 (aiR (fun i => (ivf f_c) i 0) (fun i => (ivf f_d) i 0) r s n)])
  | _ => none
theorem reuse_eq (n : Nat) (sz_c : Nat) (f_c : Nat → Nat → SV) (m : Nat) (sz_d : Nat) (f_d : Nat → Nat → SV) (s : Int) (r : Int) : reuseBase [.row n sz_c f_c, .row m sz_d f_d, .int .i64 s, .int .i64 r] = some ((sz_c = 1 ∧ IntR n 1 f_c) ∧ (sz_d = 1 ∧ IntR m 1 f_d) ∧ (n ≤ 200 ∧ m = n ∧ (∀ i, i < n → big32 ((ivf f_c) i 0)) ∧ (∀ i, i < n → big32 ((ivf f_d) i 0)) ∧ 0 ≤ s ∧ s ≤ r ∧ r ≤ 4294967296), .tup [.row n 1 (fun i _ => .int .i64 (boR (fun i => (ivf f_c) i 0) (fun i => (ivf f_d) i 0) r s i)), .int .i64 (stR (fun i => (ivf f_c) i 0) (fun i => (ivf f_d) i 0) r s n), .int .i64 (aiR (fun i => (ivf f_c) i 0) (fun i => (ivf f_d) i 0) r s n)]) := rfl
theorem reuse_base : BaseO Try.prog 39 3 reuseBase := by
  intro args p v hq hp
  unfold reuseBase at hq
  split at hq
  rotate_left
  · cases hq
  rename_i n sz_c f_c m sz_d f_d s r
  cases hq
  obtain ⟨⟨rfl, i_c⟩, ⟨rfl, i_d⟩, pre⟩ := hp
  refine baseO_of (C := cx [] [] [] [] none) (cx_ok trivial trivial) rfl (g := 39) (fn := Try.f39)
    (args' := [.row n 1 (rowF .i64 (ivf f_c)), .row m 1 (rowF .i64 (ivf f_d)), .int .i64 s, .int .i64 r]) (fn_39) rfl 1000 (by
    simp only [BdL, Bd, and_self, and_true, true_and]
    exact ⟨(fun i j hi hj => by rw [i_c i j hi hj]; trivial), (fun i j hi hj => by rw [i_d i j hi hj]; trivial)⟩) ⟨SameD.int i_c, SameD.int i_d, SameD.rfl' _, SameD.rfl' _, trivial⟩ ?_
  generalize ivf f_c = c at *
  generalize ivf f_d = d at *
  simp only [rowF_eq]
  simp only [Try.f39, go_sem, ↓reduceIte, Nat.reduceAdd, Nat.reduceSub, Nat.reduceMul, Nat.reduceEqDiff, Nat.reduceLT, Nat.reduceLeDiff, Int.reduceToNat, Int.reduceLE, Int.reduceLT, Int.reduceEq, Int.reduceNeg, reduceCtorEq]
  obtain ⟨p1, p2, p3, p4, p5, p6, p7⟩ := pre
  refine loop_ofH { i : Nat // i ≤ n } (fun i => [(16, .int .i64 (i.1 : Int)), (15, .int .i64 (n : Int)), (14, .row n 1 fun i j => .int .i64 (c i j)), (10, .int .i64 (aiR (fun i => c i 0) (fun i => d i 0) r s i.1)), (8, .vec 0 i.1), (3, .int .i64 r), (2, .int .i64 (stR (fun i => c i 0) (fun i => d i 0) r s i.1)), (1, .row m 1 fun i j => .int .i64 (d i j))]) (fun _ i => { blks := [], vecs := [.live i.1 3 1 i.1 (fun a _ => .int .i64 (boR (fun i => c i 0) (fun i => d i 0) r s a))] }) (fun i => n - i.1) (fun _ => ⟨rfl, rfl⟩) ⟨0, by omega⟩ (by (apply sub_of <;> simp only [go_sem, ↓reduceIte, Nat.reduceAdd, Nat.reduceSub, Nat.reduceMul, Nat.reduceEqDiff, Nat.reduceLT, Nat.reduceLeDiff, Int.reduceToNat, Int.reduceLE, Int.reduceLT, Int.reduceEq, Int.reduceNeg, reduceCtorEq] <;> (try simp [catF]) <;> (try exact fun j _ => Bd_nth (by simp [BdL, Bd]) j) <;> (try exact bd_setL (by simp [bdAs, BdL, Bd])) <;> (try exact nestF_bd _ _ _ _ _ _ _ _ _)) <;> exact ⟨rfl, rfl⟩) ?_
  rintro ⟨i, hi⟩
  simp only [Try.f39, go_sem, ↓reduceIte, Nat.reduceAdd, Nat.reduceSub, Nat.reduceMul, Nat.reduceEqDiff, Nat.reduceLT, Nat.reduceLeDiff, Int.reduceToNat, Int.reduceLE, Int.reduceLT, Int.reduceEq, Int.reduceNeg, reduceCtorEq]
  refine ⟨fun e1 => ?_, fun e1 => ?_⟩
  · simp only [decide_eq_true_eq] at e1
    have im : i < n := by omega
    have h1 := stR_bd p3 p4 p5 p6 i hi
    have h2 := p3 i im
    have h3 := p4 i im
    have h4 := aiR_bd p3 p4 p5 p6 i hi
    unfold big32 at h2 h3
    have w1 : IntKind.i64.wrap (stR (fun i => c i 0) (fun i => d i 0) r s i + c i 0) = stR (fun i => c i 0) (fun i => d i 0) r s i + c i 0 := wrap_id (by omega) (by omega)
    rw [w1]
    have w2 : IntKind.i64.wrap (stR (fun i => c i 0) (fun i => d i 0) r s i + c i 0 - min (stR (fun i => c i 0) (fun i => d i 0) r s i + c i 0) (d i 0)) = stR (fun i => c i 0) (fun i => d i 0) r s i + c i 0 - min (stR (fun i => c i 0) (fun i => d i 0) r s i + c i 0) (d i 0) := wrap_id (by omega) (by omega)
    have w3 : IntKind.i64.wrap (d i 0 - min (stR (fun i => c i 0) (fun i => d i 0) r s i + c i 0) (d i 0)) = d i 0 - min (stR (fun i => c i 0) (fun i => d i 0) r s i + c i 0) (d i 0) := wrap_id (by omega) (by omega)
    have w4 : IntKind.i64.wrap (stR (fun i => c i 0) (fun i => d i 0) r s i + c i 0 - min (stR (fun i => c i 0) (fun i => d i 0) r s i + c i 0) (d i 0) - r) = stR (fun i => c i 0) (fun i => d i 0) r s i + c i 0 - min (stR (fun i => c i 0) (fun i => d i 0) r s i + c i 0) (d i 0) - r := wrap_id (by omega) (by omega)
    have w5 : IntKind.i64.wrap (aiR (fun i => c i 0) (fun i => d i 0) r s i + max 0 (stR (fun i => c i 0) (fun i => d i 0) r s i + c i 0 - min (stR (fun i => c i 0) (fun i => d i 0) r s i + c i 0) (d i 0) - r)) = aiR (fun i => c i 0) (fun i => d i 0) r s i + max 0 (stR (fun i => c i 0) (fun i => d i 0) r s i + c i 0 - min (stR (fun i => c i 0) (fun i => d i 0) r s i + c i 0) (d i 0) - r) := wrap_id (by omega) (by omega)
    rw [w2, w3, w4, w5]
    refine ⟨⟨by omega, by omega⟩, ⟨by omega, by omega⟩, ⟨by omega, by omega⟩, ⟨by omega, by omega⟩, ⟨i + 1, by omega⟩, by simp only []; omega, ?_⟩
    apply sub_of <;> simp only [wrap_s im (show n ≤ 1000000 by omega), go_sem, ↓reduceIte, Nat.reduceAdd, Nat.reduceSub, Nat.reduceMul, Nat.reduceEqDiff, Nat.reduceLT, Nat.reduceLeDiff, Int.reduceToNat, Int.reduceLE, Int.reduceLT, Int.reduceEq, Int.reduceNeg, reduceCtorEq] <;> first | exact ⟨fun _ _ _ _ => trivial, rfl, rfl, fun _ _ _ _ => trivial⟩ | exact ⟨fun _ _ _ _ => trivial, fun _ _ _ _ => trivial⟩ | exact fun _ _ _ _ => trivial | exact cat_one (F := fun a => .int .i64 (boR (fun i => c i 0) (fun i => d i 0) r s a)) (fun _ _ => rfl) rfl
  · simp only [decide_eq_false_iff_not] at e1
    obtain rfl : i = n := by omega
    first | exact ⟨⟨rfl, fun _ _ _ _ => trivial⟩, rfl, rfl⟩ | (refine ⟨rfl, fun _ _ _ _ => trivial, rfl, rfl⟩) | (repeat' refine And.intro ?_ ?_) <;> first | rfl | trivial | exact fun _ _ _ _ => trivial | trace_state
def reuseRBase : BaseF := fun args => match args with
  | [.row n sz_c f_c, .row m sz_d f_d, .int .i64 s, .int .i64 r] => some ((sz_c = 1 ∧ IntR n 1 f_c) ∧ (sz_d = 1 ∧ IntR m 1 f_d) ∧ (n ≤ 200 ∧ m = n ∧ (∀ i, i < n → big32 ((ivf f_c) i 0)) ∧ (∀ i, i < n → big32 ((ivf f_d) i 0)) ∧ 0 ≤ s ∧ s ≤ r ∧ r ≤ 4294967296), .tup [.row n 1 (fun i _ => .int .i64 (boR (fun i => (ivf f_c) i 0) (fun i => (ivf f_d) i 0) r s i)), .int .i64 (stR (fun i => (ivf f_c) i 0) (fun i => (ivf f_d) i 0) r s n), .int .i64 (aiR (fun i => (ivf f_c) i 0) (fun i => (ivf f_d) i 0) r s n)])
  | _ => none
theorem reuseR_eq (n : Nat) (sz_c : Nat) (f_c : Nat → Nat → SV) (m : Nat) (sz_d : Nat) (f_d : Nat → Nat → SV) (s : Int) (r : Int) : reuseRBase [.row n sz_c f_c, .row m sz_d f_d, .int .i64 s, .int .i64 r] = some ((sz_c = 1 ∧ IntR n 1 f_c) ∧ (sz_d = 1 ∧ IntR m 1 f_d) ∧ (n ≤ 200 ∧ m = n ∧ (∀ i, i < n → big32 ((ivf f_c) i 0)) ∧ (∀ i, i < n → big32 ((ivf f_d) i 0)) ∧ 0 ≤ s ∧ s ≤ r ∧ r ≤ 4294967296), .tup [.row n 1 (fun i _ => .int .i64 (boR (fun i => (ivf f_c) i 0) (fun i => (ivf f_d) i 0) r s i)), .int .i64 (stR (fun i => (ivf f_c) i 0) (fun i => (ivf f_d) i 0) r s n), .int .i64 (aiR (fun i => (ivf f_c) i 0) (fun i => (ivf f_d) i 0) r s n)]) := rfl
theorem reuseR_base : BaseO Try.prog 45 3 reuseRBase := by
  intro args p v hq hp
  unfold reuseRBase at hq
  split at hq
  rotate_left
  · cases hq
  rename_i n sz_c f_c m sz_d f_d s r
  cases hq
  obtain ⟨⟨rfl, i_c⟩, ⟨rfl, i_d⟩, pre⟩ := hp
  refine baseO_of (C := cx [] [] [] [] none) (cx_ok trivial trivial) rfl (g := 45) (fn := Try.f45)
    (args' := [.row n 1 (rowF .i64 (ivf f_c)), .row m 1 (rowF .i64 (ivf f_d)), .int .i64 s, .int .i64 r]) (fn_45) rfl 1000 (by
    simp only [BdL, Bd, and_self, and_true, true_and]
    exact ⟨(fun i j hi hj => by rw [i_c i j hi hj]; trivial), (fun i j hi hj => by rw [i_d i j hi hj]; trivial)⟩) ⟨SameD.int i_c, SameD.int i_d, SameD.rfl' _, SameD.rfl' _, trivial⟩ ?_
  generalize ivf f_c = c at *
  generalize ivf f_d = d at *
  simp only [rowF_eq]
  simp only [Try.f45, go_sem, ↓reduceIte, Nat.reduceAdd, Nat.reduceSub, Nat.reduceMul, Nat.reduceEqDiff, Nat.reduceLT, Nat.reduceLeDiff, Int.reduceToNat, Int.reduceLE, Int.reduceLT, Int.reduceEq, Int.reduceNeg, reduceCtorEq]
  obtain ⟨p1, p2, p3, p4, p5, p6, p7⟩ := pre
  refine loop_ofH { i : Nat // i ≤ n } (fun i => [(13, .int .i64 (i.1 : Int)), (12, .int .i64 (aiR (fun i => c i 0) (fun i => d i 0) r s i.1)), (11, .vec 1 i.1), (3, .int .i64 r), (2, .int .i64 (stR (fun i => c i 0) (fun i => d i 0) r s i.1)), (1, .row m 1 fun i j => .int .i64 (d i j)), (0, .row n 1 fun i j => .int .i64 (c i j))]) (fun _ i => { blks := [], vecs := [.live 0 3 1 0 (fun _ _ => .any), .live i.1 3 1 i.1 (fun a _ => .int .i64 (boR (fun i => c i 0) (fun i => d i 0) r s a))] }) (fun i => n - i.1) (fun _ => ⟨rfl, rfl⟩) ⟨0, by omega⟩ (by (apply sub_of <;> simp only [go_sem, ↓reduceIte, Nat.reduceAdd, Nat.reduceSub, Nat.reduceMul, Nat.reduceEqDiff, Nat.reduceLT, Nat.reduceLeDiff, Int.reduceToNat, Int.reduceLE, Int.reduceLT, Int.reduceEq, Int.reduceNeg, reduceCtorEq] <;> (try simp [catF]) <;> (try exact fun j _ => Bd_nth (by simp [BdL, Bd]) j) <;> (try exact bd_setL (by simp [bdAs, BdL, Bd])) <;> (try exact nestF_bd _ _ _ _ _ _ _ _ _)) <;> exact ⟨rfl, rfl⟩) ?_
  rintro ⟨i, hi⟩
  simp only [Try.f45, go_sem, ↓reduceIte, Nat.reduceAdd, Nat.reduceSub, Nat.reduceMul, Nat.reduceEqDiff, Nat.reduceLT, Nat.reduceLeDiff, Int.reduceToNat, Int.reduceLE, Int.reduceLT, Int.reduceEq, Int.reduceNeg, reduceCtorEq]
  refine ⟨fun e1 => ?_, fun e1 => ?_⟩
  · simp only [decide_eq_true_eq] at e1
    have im : i < n := by omega
    have h1 := stR_bd p3 p4 p5 p6 i hi
    have h2 := p3 i im
    have h3 := p4 i im
    have h4 := aiR_bd p3 p4 p5 p6 i hi
    unfold big32 at h2 h3
    have w1 : IntKind.i64.wrap (stR (fun i => c i 0) (fun i => d i 0) r s i + c i 0) = stR (fun i => c i 0) (fun i => d i 0) r s i + c i 0 := wrap_id (by omega) (by omega)
    rw [w1]
    have w2 : IntKind.i64.wrap (stR (fun i => c i 0) (fun i => d i 0) r s i + c i 0 - min (stR (fun i => c i 0) (fun i => d i 0) r s i + c i 0) (d i 0)) = stR (fun i => c i 0) (fun i => d i 0) r s i + c i 0 - min (stR (fun i => c i 0) (fun i => d i 0) r s i + c i 0) (d i 0) := wrap_id (by omega) (by omega)
    have w3 : IntKind.i64.wrap (d i 0 - min (stR (fun i => c i 0) (fun i => d i 0) r s i + c i 0) (d i 0)) = d i 0 - min (stR (fun i => c i 0) (fun i => d i 0) r s i + c i 0) (d i 0) := wrap_id (by omega) (by omega)
    have w4 : IntKind.i64.wrap (aiR (fun i => c i 0) (fun i => d i 0) r s i + (stR (fun i => c i 0) (fun i => d i 0) r s i + c i 0)) = aiR (fun i => c i 0) (fun i => d i 0) r s i + (stR (fun i => c i 0) (fun i => d i 0) r s i + c i 0) := wrap_id (by omega) (by omega)
    have w5 : IntKind.i64.wrap (aiR (fun i => c i 0) (fun i => d i 0) r s i + (stR (fun i => c i 0) (fun i => d i 0) r s i + c i 0) - min (stR (fun i => c i 0) (fun i => d i 0) r s i + c i 0) (d i 0)) = aiR (fun i => c i 0) (fun i => d i 0) r s i + (stR (fun i => c i 0) (fun i => d i 0) r s i + c i 0) - min (stR (fun i => c i 0) (fun i => d i 0) r s i + c i 0) (d i 0) := wrap_id (by omega) (by omega)
    rw [w2, w3, w4, w5]
    have hst : stR (fun i => c i 0) (fun i => d i 0) r s (i + 1) = min r (stR (fun i => c i 0) (fun i => d i 0) r s i + c i 0 - min (stR (fun i => c i 0) (fun i => d i 0) r s i + c i 0) (d i 0)) := by simp only [stR]; omega
    have w6 : IntKind.i64.wrap (aiR (fun i => c i 0) (fun i => d i 0) r s i + (stR (fun i => c i 0) (fun i => d i 0) r s i + c i 0) - min (stR (fun i => c i 0) (fun i => d i 0) r s i + c i 0) (d i 0) - min r (stR (fun i => c i 0) (fun i => d i 0) r s i + c i 0 - min (stR (fun i => c i 0) (fun i => d i 0) r s i + c i 0) (d i 0))) = aiR (fun i => c i 0) (fun i => d i 0) r s (i + 1) := by
      rw [wrap_id (by omega) (by omega)]; simp only [aiR]; omega
    rw [w6]
    refine ⟨⟨by omega, by omega⟩, ⟨by omega, by omega⟩, ⟨by omega, by omega⟩, ⟨by omega, by omega⟩, ⟨i + 1, by omega⟩, by simp only []; omega, ?_⟩
    apply sub_of <;> simp only [hst, wrap_s im (show n ≤ 1000000 by omega), go_sem, ↓reduceIte, Nat.reduceAdd, Nat.reduceSub, Nat.reduceMul, Nat.reduceEqDiff, Nat.reduceLT, Nat.reduceLeDiff, Int.reduceToNat, Int.reduceLE, Int.reduceLT, Int.reduceEq, Int.reduceNeg, reduceCtorEq] <;> first | exact ⟨fun _ _ _ _ => trivial, fun _ _ _ _ => trivial⟩ | exact ⟨fun _ _ _ _ => trivial, cat_one (F := fun a => .int .i64 (boR (fun i => c i 0) (fun i => d i 0) r s a)) (fun _ _ => rfl) rfl⟩
  · simp only [decide_eq_false_iff_not] at e1
    obtain rfl : i = n := by omega
    first | exact ⟨⟨rfl, fun _ _ _ _ => trivial⟩, rfl, rfl⟩ | (refine ⟨rfl, fun _ _ _ _ => trivial, rfl, rfl⟩) | (repeat' refine And.intro ?_ ?_) <;> first | rfl | trivial | exact fun _ _ _ _ => trivial | trace_state
end Go.Eng
end

/- brine: what is wrong with lists. -/
section
namespace Go.Eng
open Go Go.RowKit Go.Proofs
set_option maxRecDepth 100000
set_option maxHeartbeats 4000000
attribute [local irreducible] OwnT DefS
def allU (p : Nat → Bool) : Nat → Bool
  | 0 => true
  | n + 1 => allU p n && p n
theorem allU_iff {p : Nat → Bool} : ∀ {n : Nat}, allU p n = true ↔ ∀ i, i < n → p i = true
  | 0 => ⟨fun _ i h => absurd h (by omega), fun _ => rfl⟩
  | n + 1 => by
    simp only [allU, Bool.and_eq_true, allU_iff (n := n)]
    constructor
    · rintro ⟨h1, h2⟩ i hi
      rcases Nat.lt_or_ge i n with h | h
      · exact h1 i h
      · obtain rfl : i = n := by omega
        exact h2
    · intro h
      exact ⟨fun i hi => h i (by omega), h n (by omega)⟩
theorem allU_false {p : Nat → Bool} {n i : Nat} (hi : i < n) (h : p i = false) : allU p n = false := by
  cases hc : allU p n with
  | false => rfl
  | true => have := allU_iff.1 hc i hi; rw [h] at this; cases this
theorem allU_true {p : Nat → Bool} {n : Nat} (h : ∀ j, j < n → p j = true) : allU p n = true := allU_iff.2 h
theorem below {p : Nat → Bool} {i : Nat} (h : ∀ j, j < i → p j = true) (hi : p i = true) : ∀ j, j < i + 1 → p j = true := fun j hj => by
  rcases Nat.lt_or_ge j i with h2 | h2
  · exact h j h2
  · obtain rfl : j = i := by omega
    exact hi
def hasBadBase : BaseF := fun args => match args with
  | [.row n sz_v f_v, .func g []] => some ((sz_v = 1 ∧ IntR n 1 f_v) ∧ (g = 60 ∧ n ≤ 1000000), .bool (!allU (fun i => in3 ((ivf f_v) i 0) 0 4294967296) n))
  | _ => none
theorem hasBad_eq (n : Nat) (sz_v : Nat) (f_v : Nat → Nat → SV) (g : Nat) : hasBadBase [.row n sz_v f_v, .func g []] = some ((sz_v = 1 ∧ IntR n 1 f_v) ∧ (g = 60 ∧ n ≤ 1000000), .bool (!allU (fun i => in3 ((ivf f_v) i 0) 0 4294967296) n)) := rfl
theorem hasBad_base : Base Try.prog 61 hasBadBase := by
  intro args p v hq hp
  unfold hasBadBase at hq
  split at hq
  rotate_left
  · cases hq
  rename_i n sz_v f_v g
  cases hq
  obtain ⟨⟨rfl, i_v⟩, pre⟩ := hp
  refine base_of (C := cx [] [] [(60, notHeatBase)] [] none) (cx_ok trivial ⟨notHeat_base, trivial⟩) rfl (g := 61) (fn := Try.f61)
    (args' := [.row n 1 (rowF .i64 (ivf f_v)), .func g []]) (fn_61) rfl 1000 (by
    simp only [BdL, Bd, and_self, and_true, true_and]
    exact (fun i j hi hj => by rw [i_v i j hi hj]; trivial)) ⟨SameD.int i_v, SameD.rfl' _, trivial⟩ ?_
  generalize ivf f_v = v at *
  simp only [rowF_eq]
  simp only [notHeat_eq, Try.f75, Try.f61, go_sem, ↓reduceIte, Nat.reduceAdd, Nat.reduceSub, Nat.reduceMul, Nat.reduceEqDiff, Nat.reduceLT, Nat.reduceLeDiff, Int.reduceToNat, Int.reduceLE, Int.reduceLT, Int.reduceEq, Int.reduceNeg, reduceCtorEq]
  obtain ⟨rfl, hn⟩ := pre
  refine loop_ofH { i : Nat // i ≤ n ∧ ∀ j, j < i → (fun i => in3 (v i 0) 0 4294967296) j = true } (fun i => [(8, .int .i64 (i.1 : Int)), (7, .int .i64 (n : Int)), (1, .func 60 []), (0, .row n 1 fun i j => .int .i64 (v i j))]) (fun h _ => h) (fun i => n - i.1) (fun _ => ⟨rfl, rfl⟩) ⟨0, by omega, by omega⟩ (by (apply sub_of <;> simp only [go_sem, ↓reduceIte, Nat.reduceAdd, Nat.reduceSub, Nat.reduceMul, Nat.reduceEqDiff, Nat.reduceLT, Nat.reduceLeDiff, Int.reduceToNat, Int.reduceLE, Int.reduceLT, Int.reduceEq, Int.reduceNeg, reduceCtorEq] <;> (try simp [catF]) <;> (try exact fun j _ => Bd_nth (by simp [BdL, Bd]) j) <;> (try exact bd_setL (by simp [bdAs, BdL, Bd])) <;> (try exact nestF_bd _ _ _ _ _ _ _ _ _))) ?_
  rintro ⟨i, hi, h3⟩
  have h0 : (0 : Int) ≤ (i : Int) := by omega
  simp only [notHeat_eq, Try.f75, Try.f61, go_sem, ↓reduceIte, Nat.reduceAdd, Nat.reduceSub, Nat.reduceMul, Nat.reduceEqDiff, Nat.reduceLT, Nat.reduceLeDiff, Int.reduceToNat, Int.reduceLE, Int.reduceLT, Int.reduceEq, Int.reduceNeg, reduceCtorEq]
  refine ⟨fun e1 => ?_, fun e1 => ?_⟩
  · simp only [decide_eq_true_eq] at e1
    have ik : i < n := by omega
    refine ⟨⟨by omega, by omega⟩, fun e2 => ?_, fun e2 => ?_⟩
    · rw [allU_false (p := fun i => in3 (v i 0) 0 _) ik (by simpa using e2)]; simp [h0]
    refine ⟨⟨i + 1, by omega, below h3 (by simpa using e2)⟩, by simp only []; omega, ?_⟩
    apply sub_of <;> simp only [wrap_s ik hn, go_sem, ↓reduceIte, Nat.reduceAdd, Nat.reduceSub, Nat.reduceMul, Nat.reduceEqDiff, Nat.reduceLT, Nat.reduceLeDiff, Int.reduceToNat, Int.reduceLE, Int.reduceLT, Int.reduceEq, Int.reduceNeg, reduceCtorEq] <;> (try simp) <;> (try exact fun j _ => Bd_nth (by simp [BdL, Bd]) j) <;> (try exact bd_setL (by simp [bdAs, BdL, Bd])) <;> (try exact nestF_bd _ _ _ _ _ _ _ _ _)
  · simp only [decide_eq_false_iff_not] at e1
    obtain rfl : i = n := by omega
    rw [allU_true h3]; rfl
end Go.Eng
end

/- brine: slugs in pipes. The plain law. -/
section
namespace Go.Eng
/-- A slug: its volume, its heat. -/
abbrev Sl := Int × Int
def plS (a b : Sl) : Sl := (a.1 + b.1, a.2 + b.2)
/-- All of them as one. -/
def smL : List Sl → Sl
  | [] => (0, 0)
  | x :: l => plS x (smL l)
def volL (l : List Sl) : Int := (smL l).1
def heatL (l : List Sl) : Int := (smL l).2
theorem smL_app (l k : List Sl) : smL (l ++ k) = plS (smL l) (smL k) := by
  induction l with
  | nil => simp [smL, plS]
  | cons x l ih => simp only [List.cons_append, smL, ih, plS, Prod.mk.injEq]; omega
theorem volL_app (l k : List Sl) : volL (l ++ k) = volL l + volL k := by simp [volL, smL_app, plS]
theorem heatL_app (l k : List Sl) : heatL (l ++ k) = heatL l + heatL k := by simp [heatL, smL_app, plS]
theorem volL_cons (x : Sl) (l : List Sl) : volL (x :: l) = x.1 + volL l := rfl
theorem heatL_cons (x : Sl) (l : List Sl) : heatL (x :: l) = x.2 + heatL l := rfl
theorem volL_nil : volL [] = 0 := rfl
theorem heatL_nil : heatL [] = 0 := rfl
/-- Some litres out of a slug. -/
def tkS (x : Sl) (n : Int) : Sl := if n < x.1 then (n, (x.2 * n).tdiv x.1) else x
def mnS (a b : Sl) : Sl := (a.1 - b.1, a.2 - b.2)
/-- What flows out, and what stays. -/
def flowM : List Sl → Int → List Sl × List Sl
  | [], _ => ([], [])
  | x :: l, n => if n ≤ 0 then ([], x :: l) else if x.1 ≤ n then (x :: (flowM l (n - x.1)).1, (flowM l (n - x.1)).2) else ([tkS x n], mnS x (tkS x n) :: l)
/-- Slugs that are there: no empty ones. -/
def OkL (l : List Sl) : Prop := ∀ x ∈ l, 1 ≤ x.1 ∧ 0 ≤ x.2
theorem OkL.cons {x : Sl} {l : List Sl} (h : OkL (x :: l)) : (1 ≤ x.1 ∧ 0 ≤ x.2) ∧ OkL l := ⟨h x (by simp), fun y hy => h y (by simp [hy])⟩
theorem OkL.app {l k : List Sl} (h1 : OkL l) (h2 : OkL k) : OkL (l ++ k) := fun x hx => by
  rcases List.mem_append.1 hx with h | h
  · exact h1 x h
  · exact h2 x h
theorem OkL.vol {l : List Sl} (h : OkL l) : (l.length : Int) ≤ volL l := by
  induction l with
  | nil => simp [volL_nil]
  | cons x l ih => have := ih h.cons.2; have := h.cons.1; rw [volL_cons]; simp; omega
theorem OkL.heat {l : List Sl} (h : OkL l) : 0 ≤ heatL l := by
  induction l with
  | nil => simp [heatL_nil]
  | cons x l ih => have := ih h.cons.2; have := h.cons.1; rw [heatL_cons]; omega
theorem OkL.mem_le {l : List Sl} (h : OkL l) {x : Sl} (hx : x ∈ l) : x.1 ≤ volL l ∧ x.2 ≤ heatL l := by
  induction l with
  | nil => simp at hx
  | cons y l ih =>
    have h1 := h.cons.2.vol
    have h2 := h.cons.2.heat
    have h3 := h.cons.1
    rw [volL_cons, heatL_cons]
    rcases List.mem_cons.1 hx with rfl | hx
    · omega
    · have := ih h.cons.2 hx; omega
/-- What is taken has its share of heat. -/
theorem tkS_bd {x : Sl} {n : Int} (h1 : 1 ≤ n) (h2 : 0 ≤ x.2) (h3 : n < x.1) : 0 ≤ (tkS x n).2 ∧ (tkS x n).2 ≤ x.2 ∧ (tkS x n).1 = n := by
  unfold tkS
  rw [if_pos h3]
  have hnn : 0 ≤ x.2 * n := Int.mul_nonneg h2 (by omega)
  refine ⟨Int.tdiv_nonneg hnn (by omega), ?_, rfl⟩
  show (x.2 * n).tdiv x.1 ≤ x.2
  rw [Int.tdiv_eq_ediv_of_nonneg hnn]
  have : x.2 * n ≤ x.2 * x.1 := Int.mul_le_mul_of_nonneg_left (by omega) h2
  exact Int.le_trans (Int.ediv_le_ediv (by omega) this) (by rw [Int.mul_ediv_cancel _ (by omega)]; exact Int.le_refl _)
theorem flowM_neg (l : List Sl) {n : Int} (h : n ≤ 0) : flowM l n = ([], l) := by
  cases l with
  | nil => rfl
  | cons x l => simp [flowM, h]
/-- Litres and heat are conserved; so many litres flow out, if there are as many. -/
theorem flowM_sum (l : List Sl) (n : Int) : plS (smL (flowM l n).1) (smL (flowM l n).2) = smL l := by
  induction l generalizing n with
  | nil => simp [flowM, smL, plS]
  | cons x l ih =>
    simp only [flowM]
    split
    · simp [smL, plS]
    · split
      · have := ih (n - x.1)
        simp only [smL, plS, Prod.ext_iff] at this ⊢
        omega
      · simp only [smL, plS, mnS, Prod.ext_iff]; omega
theorem flowM_ok (l : List Sl) (n : Int) (h : OkL l) : OkL (flowM l n).1 ∧ OkL (flowM l n).2 := by
  induction l generalizing n with
  | nil => exact ⟨h, h⟩
  | cons x l ih =>
    have hx := h.cons.1
    simp only [flowM]
    split
    · exact ⟨fun _ hx => by simp at hx, h⟩
    · rename_i hn
      split
      · obtain ⟨h1, h2⟩ := ih (n - x.1) h.cons.2
        exact ⟨fun y hy => by
          rcases List.mem_cons.1 hy with rfl | hy
          · exact hx
          · exact h1 y hy, h2⟩
      · rename_i hv
        obtain ⟨t1, t2, t3⟩ := tkS_bd (x := x) (n := n) (by omega) hx.2 (by omega)
        refine ⟨fun y hy => ?_, fun y hy => ?_⟩
        · simp only [List.mem_singleton] at hy; subst hy; omega
        · rcases List.mem_cons.1 hy with rfl | hy
          · simp only [mnS]; omega
          · exact h.cons.2 y hy
theorem flowM_vol (l : List Sl) (n : Int) (h : OkL l) (h0 : 0 ≤ n) (hn : n ≤ volL l) : volL (flowM l n).1 = n := by
  induction l generalizing n with
  | nil => simp only [volL_nil] at hn; simp [flowM, volL_nil]; omega
  | cons x l ih =>
    simp only [flowM]
    rw [volL_cons] at hn
    split
    · simp [volL_nil]; omega
    · split
      · rw [volL_cons, ih _ h.cons.2 (by omega) (by omega)]; omega
      · rename_i a b
        have hx := h.cons.1
        have := (tkS_bd (x := x) (n := n) (by omega) hx.2 (by omega)).2.2
        simp only [volL_cons, volL_nil]; omega
theorem flowM_len (l : List Sl) (n : Int) : (flowM l n).2.length ≤ l.length ∧ (flowM l n).1.length ≤ l.length := by
  induction l generalizing n with
  | nil => simp [flowM]
  | cons x l ih =>
    simp only [flowM]
    split
    · simp
    · split
      · have := ih (n - x.1); simp; omega
      · simp
theorem flowM_vol2 {l : List Sl} {n : Int} (h : OkL l) (h0 : 0 ≤ n) (hn : n ≤ volL l) : volL (flowM l n).2 = volL l - n := by
  have h1 := flowM_sum l n
  have h2 := flowM_vol l n h h0 hn
  simp only [volL, plS, Prod.ext_iff] at *
  omega
theorem flowM_heat (l : List Sl) (n : Int) : heatL (flowM l n).1 + heatL (flowM l n).2 = heatL l := by
  have h1 := flowM_sum l n
  simp only [heatL, plS, Prod.ext_iff] at *
  omega
/-- One more of what flows: step by step. -/
theorem flowM_pop {x : Sl} {l : List Sl} {n : Int} (h0 : 0 < n) (hx : x.1 ≤ n) : flowM (x :: l) n = (x :: (flowM l (n - x.1)).1, (flowM l (n - x.1)).2) := by
  simp only [flowM]; rw [if_neg (by omega), if_pos hx]
theorem flowM_cut {x : Sl} {l : List Sl} {n : Int} (h0 : 0 < n) (hx : n < x.1) : flowM (x :: l) n = ([tkS x n], mnS x (tkS x n) :: l) := by
  simp only [flowM]; rw [if_neg (by omega), if_neg (by omega)]
/-- The last two of too many become one. -/
def mrg (l : List Sl) : List Sl := if 16 < l.length then l.take (l.length - 2) ++ [plS (l.getD (l.length - 2) (0, 0)) (l.getD (l.length - 1) (0, 0))] else l
theorem mrg_split {l : List Sl} (h : 16 < l.length) : ∃ k a b, l = k ++ [a, b] ∧ mrg l = k ++ [plS a b] := by
  have h1 : l.length - 2 < l.length := by omega
  have h2 : l.length - 1 < l.length := by omega
  have hd : l.drop (l.length - 2) = [l[l.length - 2], l[l.length - 1]] := by
    rw [List.drop_eq_getElem_cons h1, List.drop_eq_getElem_cons (by omega)]
    rw [List.drop_eq_nil_of_le (by omega)]
    congr 3
    omega
  refine ⟨l.take (l.length - 2), l[l.length - 2], l[l.length - 1], ?_, ?_⟩
  · rw [← hd, List.take_append_drop]
  · simp only [mrg, if_pos h, List.getD_eq_getElem?_getD, List.getElem?_eq_getElem h1, List.getElem?_eq_getElem h2, Option.getD_some]
theorem mrg_sum (l : List Sl) : smL (mrg l) = smL l := by
  by_cases h : 16 < l.length
  · obtain ⟨k, a, b, h1, h2⟩ := mrg_split h
    rw [h2, h1, smL_app, smL_app]
    simp only [smL, plS, Prod.ext_iff]
    omega
  · simp [mrg, h]
theorem mrg_ok {l : List Sl} (h : OkL l) : OkL (mrg l) := by
  by_cases hl : 16 < l.length
  · obtain ⟨k, a, b, h1, h2⟩ := mrg_split hl
    rw [h2]
    have ha := h a (by rw [h1]; simp)
    have hb := h b (by rw [h1]; simp)
    refine OkL.app (fun x hx => h x (by rw [h1]; simp [hx])) (fun x hx => ?_)
    simp only [List.mem_singleton] at hx
    subst hx
    simp only [plS]
    omega
  · rw [mrg, if_neg hl]; exact h
theorem mrg_len {l : List Sl} (h : l.length ≤ 17) : (mrg l).length ≤ 16 := by
  by_cases hl : 16 < l.length
  · obtain ⟨k, a, b, h1, h2⟩ := mrg_split hl
    rw [h2]
    have := congrArg List.length h1
    simp at this ⊢
    omega
  · rw [mrg, if_neg hl]; omega

/-- The tank and the slugs of all pipes. -/
structure TkP where
  t : Sl
  sl : Nat → List Sl
def upL (f : Nat → List Sl) (i : Nat) (l : List Sl) : Nat → List Sl := fun j => if j = i then l else f j
/-- What flows out of a pipe into which a slug flows, and what is there then. -/
def outP (l : List Sl) (x : Sl) (r : Int) : List Sl × List Sl := flowM (l ++ [x]) (max 0 (volL (l ++ [x]) - r))
/-- A slug flows into the pipe that is k ahead of the end. -/
def intoK (N : Nat) (room : Nat → Int) : Nat → TkP → Sl → TkP
  | 0, s, x => ⟨plS s.t x, s.sl⟩
  | k + 1, s, x => (outP (s.sl (N - (k + 1))) x (room (N - (k + 1)))).1.foldl (intoK N room k) ⟨s.t, upL s.sl (N - (k + 1)) (mrg (outP (s.sl (N - (k + 1))) x (room (N - (k + 1)))).2)⟩
/-- The sum of what numbers are told. -/
def smN (f : Nat → Int) : Nat → Int
  | 0 => 0
  | n + 1 => smN f n + f n
theorem smN_congr {f g : Nat → Int} : ∀ n, (∀ i, i < n → f i = g i) → smN f n = smN g n
  | 0, _ => rfl
  | n + 1, h => by simp only [smN, smN_congr n (fun i hi => h i (by omega)), h n (by omega)]
theorem smN_nonneg {f : Nat → Int} : ∀ n, (∀ i, i < n → 0 ≤ f i) → 0 ≤ smN f n
  | 0, _ => Int.le_refl _
  | n + 1, h => by have := smN_nonneg n (fun i hi => h i (by omega)); have := h n (by omega); simp only [smN]; omega
theorem smN_le {f : Nat → Int} : ∀ n i, i < n → (∀ i, i < n → 0 ≤ f i) → f i ≤ smN f n
  | 0, i, hi, _ => absurd hi (Nat.not_lt_zero _)
  | n + 1, i, hi, h => by
    simp only [smN]
    have h1 := smN_nonneg n (fun i hi => h i (by omega))
    have h2 := h n (by omega)
    rcases Nat.lt_or_ge i n with g | g
    · have := smN_le n i g (fun i hi => h i (by omega)); omega
    · obtain rfl : i = n := by omega
      omega
theorem smN_upd {f g : Nat → Int} {i : Nat} : ∀ n, i < n → (∀ j, j < n → j ≠ i → g j = f j) → smN g n = smN f n + (g i - f i)
  | 0, hi, _ => absurd hi (Nat.not_lt_zero _)
  | n + 1, hi, h => by
    simp only [smN]
    rcases Nat.lt_or_ge i n with q | q
    · rw [smN_upd n q (fun j hj hne => h j (by omega) hne), h n (by omega) (by omega)]; omega
    · obtain rfl : i = n := by omega
      rw [smN_congr (f := g) (g := f) i (fun j hj => h j (by omega) (by omega))]; omega
/-- All heat of tank and pipes; all litres. -/
def TkP.heat (N : Nat) (s : TkP) : Int := s.t.2 + smN (fun i => heatL (s.sl i)) N
def TkP.vol (N : Nat) (s : TkP) : Int := s.t.1 + smN (fun i => volL (s.sl i)) N
structure TkP.Ok (N : Nat) (room : Nat → Int) (s : TkP) : Prop where
  t : 0 ≤ s.t.1 ∧ 0 ≤ s.t.2
  ok : ∀ i, i < N → OkL (s.sl i)
  room : ∀ i, i < N → volL (s.sl i) ≤ room i
  len : ∀ i, i < N → (s.sl i).length ≤ 16
theorem TkP.Ok.heat_nonneg {N : Nat} {room : Nat → Int} {s : TkP} (h : s.Ok N room) : 0 ≤ smN (fun i => heatL (s.sl i)) N := smN_nonneg N (fun i hi => (h.ok i hi).heat)
/-- Behind a flow. -/
structure Flows (N : Nat) (room : Nat → Int) (s s' : TkP) (x : Sl) : Prop where
  ok : s'.Ok N room
  heat : s'.heat N = s.heat N + x.2
  vol : s'.vol N = s.vol N + x.1
  t1 : s.t.1 ≤ s'.t.1 ∧ s'.t.1 ≤ s.t.1 + x.1
  t2 : s.t.2 ≤ s'.t.2
  tz : (s.t.1 = 0 → s.t.2 = 0) → s'.t.1 = 0 → s'.t.2 = 0
theorem foldl_flows {N : Nat} {room : Nat → Int} {F : TkP → Sl → TkP} (hF : ∀ s x, s.Ok N room → 1 ≤ x.1 → 0 ≤ x.2 → Flows N room s (F s x) x) : ∀ (l : List Sl) (s : TkP), s.Ok N room → OkL l → Flows N room s (l.foldl F s) (smL l)
  | [], s, h, _ => ⟨h, by simp [smL], by simp [smL], by simp [smL], Int.le_refl _, id⟩
  | x :: l, s, h, hl => by
    have h1 := hF s x h hl.cons.1.1 hl.cons.1.2
    have h2 := foldl_flows hF l (F s x) h1.ok hl.cons.2
    have hv := hl.cons.2.vol
    simp only [List.foldl_cons]
    refine ⟨h2.ok, ?_, ?_, ?_, ?_, fun z => h2.tz (h1.tz z)⟩
    · rw [h2.heat, h1.heat]; simp only [smL, plS]; omega
    · rw [h2.vol, h1.vol]; simp only [smL, plS]; omega
    · have := h1.t1; have := h2.t1; simp only [smL, plS]; omega
    · have := h1.t2; have := h2.t2; omega
theorem outP_facts {l : List Sl} {x : Sl} {r : Int} (hl : OkL l) (hx : 1 ≤ x.1 ∧ 0 ≤ x.2) (hr : volL l ≤ r) (hr0 : 0 ≤ r) (hn : l.length ≤ 16) :
    OkL (outP l x r).1 ∧ OkL (mrg (outP l x r).2) ∧ volL (outP l x r).1 ≤ x.1 ∧ volL (outP l x r).2 ≤ r ∧ plS (smL (outP l x r).1) (smL (outP l x r).2) = plS (smL l) x ∧ (outP l x r).2.length ≤ 17 ∧ (mrg (outP l x r).2).length ≤ 16 ∧ OkL (outP l x r).2 := by
  have hx' : OkL [x] := fun y hy => by simp only [List.mem_singleton] at hy; subst hy; exact hx
  have hall := hl.app hx'
  have hv : volL (l ++ [x]) = volL l + x.1 := by rw [volL_app]; simp [volL_cons, volL_nil]
  have hm : max 0 (volL (l ++ [x]) - r) ≤ volL (l ++ [x]) := by have := hall.vol; omega
  have f1 := flowM_ok _ (max 0 (volL (l ++ [x]) - r)) hall
  have f2 := flowM_vol _ _ hall (by omega) hm
  have f3 := flowM_vol2 hall (by omega) hm
  have f4 := flowM_sum (l ++ [x]) (max 0 (volL (l ++ [x]) - r))
  have f5 := (flowM_len (l ++ [x]) (max 0 (volL (l ++ [x]) - r))).1
  have f6 : (l ++ [x]).length ≤ 17 := by simp; omega
  refine ⟨f1.1, mrg_ok f1.2, ?_, ?_, ?_, by unfold outP; omega, mrg_len (by unfold outP; omega), f1.2⟩
  · unfold outP; rw [f2]; omega
  · unfold outP; rw [f3]; omega
  · unfold outP; rw [f4, smL_app]; simp [smL, plS]
theorem intoK_flows {N : Nat} {room : Nat → Int} (hroom : ∀ i, i < N → 0 ≤ room i) : ∀ k, k ≤ N → ∀ s x, s.Ok N room → 1 ≤ x.1 → 0 ≤ x.2 → Flows N room s (intoK N room k s x) x
  | 0, _, s, x, h, h1, h2 => by
    simp only [intoK]
    have := h.t
    refine ⟨⟨by simp only [plS]; omega, h.ok, h.room, h.len⟩, ?_, ?_, ?_, ?_, ?_⟩ <;> simp only [TkP.heat, TkP.vol, plS] <;> omega
  | k + 1, hk, s, x, h, h1, h2 => by
    have hi : N - (k + 1) < N := by omega
    simp only [intoK]
    generalize hi' : N - (k + 1) = i at hi
    obtain ⟨o1, o2, o3, o4, o5, o6, o7, o8⟩ := outP_facts (h.ok i hi) ⟨h1, h2⟩ (h.room i hi) (hroom i hi) (h.len i hi)
    generalize hO : outP (s.sl i) x (room i) = O at *
    have hok : TkP.Ok N room ⟨s.t, upL s.sl i (mrg O.2)⟩ := by
      refine ⟨h.t, fun j hj => ?_, fun j hj => ?_, fun j hj => ?_⟩ <;> simp only [upL] <;> split
      · exact o2
      · exact h.ok j hj
      · rename_i e; subst e; simp only [volL, mrg_sum]; exact o4
      · exact h.room j hj
      · exact o7
      · exact h.len j hj
    have hf := foldl_flows (fun s x => intoK_flows hroom k (by omega) s x) O.1 _ hok o1
    have hm := mrg_sum O.2
    simp only [plS, Prod.ext_iff] at o5
    have u1 : smN (fun j => heatL (upL s.sl i (mrg O.2) j)) N = smN (fun j => heatL (s.sl j)) N + (heatL (mrg O.2) - heatL (s.sl i)) := by
      rw [smN_upd (f := fun j => heatL (s.sl j)) (g := fun j => heatL (upL s.sl i (mrg O.2) j)) (i := i) N hi (fun j hj hne => by simp [upL, hne])]
      simp [upL]
    have u2 : smN (fun j => volL (upL s.sl i (mrg O.2) j)) N = smN (fun j => volL (s.sl j)) N + (volL (mrg O.2) - volL (s.sl i)) := by
      rw [smN_upd (f := fun j => volL (s.sl j)) (g := fun j => volL (upL s.sl i (mrg O.2) j)) (i := i) N hi (fun j hj hne => by simp [upL, hne])]
      simp [upL]
    have k1 := hf.heat
    have k2 := hf.vol
    have k3 := hf.t1
    have k4 := hf.t2
    simp only [TkP.heat, TkP.vol, heatL, volL, hm] at k1 k2 k3 k4 u1 u2 o3 ⊢
    rw [u1] at k1
    rw [u2] at k2
    refine ⟨hf.ok, ?_, ?_, by omega, by omega, hf.tz⟩
    · simp only [TkP.heat, heatL]; omega
    · simp only [TkP.vol, volL]; omega
end Go.Eng
end

/- brine: slugs as rows; plus, sum, volume, take. -/
section
namespace Go.Eng
open Go Go.RowKit Go.Proofs
set_option maxRecDepth 100000
set_option maxHeartbeats 4000000
attribute [local irreducible] OwnT DefS
def slL (n : Nat) (f : Nat → Nat → Int) : List Sl := (List.range n).map fun k => (f k 0, f k 1)
def slI (l : List Sl) (k j : Nat) : Int := if j = 0 then (l.getD k (0, 0)).1 else (l.getD k (0, 0)).2
theorem slL_len (n : Nat) (f : Nat → Nat → Int) : (slL n f).length = n := by simp [slL]
theorem slL_slI (l : List Sl) : slL l.length (slI l) = l := by
  apply List.ext_getElem
  · simp [slL_len]
  · intro i h1 h2
    simp [slL, slI, h2]
theorem slL_get {n : Nat} {f : Nat → Nat → Int} {i : Nat} (hi : i < n) : (slL n f).getD i (0, 0) = (f i 0, f i 1) := by simp [slL, hi]
theorem slL_getE {n : Nat} {f : Nat → Nat → Int} {i : Nat} (hi : i < n) : (slL n f)[i]? = some (f i 0, f i 1) := by simp [slL, hi]
theorem slI_slL {n : Nat} {f : Nat → Nat → Int} {i j : Nat} (hi : i < n) (hj : j < 2) : slI (slL n f) i j = f i j := by
  have : j = 0 ∨ j = 1 := by omega
  rcases this with rfl | rfl <;> simp only [slI, slL_get hi] <;> rfl
theorem slL_succ (n : Nat) (f : Nat → Nat → Int) : slL (n + 1) f = slL n f ++ [(f n 0, f n 1)] := by simp [slL, List.range_succ]
theorem slL_congr {n : Nat} {f g : Nat → Nat → Int} (h : ∀ i j, i < n → j < 2 → f i j = g i j) : slL n f = slL n g := by
  unfold slL
  apply List.map_congr_left
  intro i hi
  simp only [List.mem_range] at hi
  rw [h i 0 hi (by omega), h i 1 hi (by omega)]
theorem slL_mem {n : Nat} {f : Nat → Nat → Int} {x : Sl} (h : x ∈ slL n f) : ∃ i, i < n ∧ x = (f i 0, f i 1) := by
  simp only [slL, List.mem_map, List.mem_range] at h
  obtain ⟨i, h1, h2⟩ := h
  exact ⟨i, h1, h2.symm⟩
theorem slI_0 (l : List Sl) (k : Nat) : slI l k 0 = (l.getD k (0, 0)).1 := rfl
theorem slI_1 (l : List Sl) (k : Nat) : slI l k 1 = (l.getD k (0, 0)).2 := rfl
/-- Volumes and heats that can be added. -/
def OkB (l : List Sl) : Prop := ∀ x ∈ l, (0 ≤ x.1 ∧ x.1 ≤ 2097152) ∧ 0 ≤ x.2 ∧ x.2 ≤ 4398046511104
theorem OkB.sum : ∀ {l : List Sl}, OkB l → (0 ≤ (smL l).1 ∧ (smL l).1 ≤ 2097152 * (l.length : Int)) ∧ 0 ≤ (smL l).2 ∧ (smL l).2 ≤ 4398046511104 * (l.length : Int)
  | [], _ => by simp [smL]
  | x :: l, h => by
    have h1 := OkB.sum (l := l) (fun y hy => h y (by simp [hy]))
    have h2 := h x (by simp)
    simp only [smL, plS, List.length_cons]
    omega
theorem OkB.take {n : Nat} {f : Nat → Nat → Int} (h : OkB (slL n f)) {i : Nat} (hi : i ≤ n) : OkB (slL i f) := fun x hx => by
  obtain ⟨k, hk, rfl⟩ := slL_mem hx
  refine h _ ?_
  simp only [slL, List.mem_map, List.mem_range]
  exact ⟨k, by omega, rfl⟩
theorem OkB.at {n : Nat} {f : Nat → Nat → Int} (h : OkB (slL n f)) {i : Nat} (hi : i < n) : (0 ≤ f i 0 ∧ f i 0 ≤ 2097152) ∧ 0 ≤ f i 1 ∧ f i 1 ≤ 4398046511104 :=
  h (f i 0, f i 1) (by simp only [slL, List.mem_map, List.mem_range]; exact ⟨i, hi, rfl⟩)
def bg (x : Int) : Prop := -4611686018427387904 ≤ x ∧ x ≤ 4611686018427387903
def plusBase : BaseF := fun args => match args with
  | [.agg [.int .i64 a, .int .i64 b], .agg [.int .i64 c, .int .i64 d]] => some ((bg a ∧ bg b ∧ bg c ∧ bg d), .agg [.int .i64 (a + c), .int .i64 (b + d)])
  | _ => none
theorem plus_eq (a : Int) (b : Int) (c : Int) (d : Int) : plusBase [.agg [.int .i64 a, .int .i64 b], .agg [.int .i64 c, .int .i64 d]] = some ((bg a ∧ bg b ∧ bg c ∧ bg d), .agg [.int .i64 (a + c), .int .i64 (b + d)]) := rfl
theorem plus_base : Base Try.prog 41 plusBase := by
  intro args p v hq hp
  unfold plusBase at hq
  split at hq
  rotate_left
  · cases hq
  rename_i a b c d
  cases hq
  have pre := hp
  refine base_of (C := cx [] [] [] [] none) (cx_ok trivial trivial) rfl (g := 41) (fn := Try.f41)
    (args' := [.agg [.int .i64 a, .int .i64 b], .agg [.int .i64 c, .int .i64 d]]) (fn_41) rfl 1000 (by simp only [BdL, Bd, and_self, and_true, true_and]) ⟨SameD.rfl' _, SameD.rfl' _, trivial⟩ ?_
  simp only [Try.f41, go_sem, ↓reduceIte, Nat.reduceAdd, Nat.reduceSub, Nat.reduceMul, Nat.reduceEqDiff, Nat.reduceLT, Nat.reduceLeDiff, Int.reduceToNat, Int.reduceLE, Int.reduceLT, Int.reduceEq, Int.reduceNeg, reduceCtorEq]
  obtain ⟨p1, p2, p3, p4⟩ := pre
  unfold bg at *
  rw [wrap_id (x := a + c) (by omega) (by omega), wrap_id (x := b + d) (by omega) (by omega)]
def plusRBase : BaseF := fun args => match args with
  | [.agg [.int .i64 a, .int .i64 b], .agg [.int .i64 c, .int .i64 d]] => some ((bg a ∧ bg b ∧ bg c ∧ bg d), .agg [.int .i64 (a + c), .int .i64 (b + d)])
  | _ => none
theorem plusR_eq (a : Int) (b : Int) (c : Int) (d : Int) : plusRBase [.agg [.int .i64 a, .int .i64 b], .agg [.int .i64 c, .int .i64 d]] = some ((bg a ∧ bg b ∧ bg c ∧ bg d), .agg [.int .i64 (a + c), .int .i64 (b + d)]) := rfl
theorem plusR_base : Base Try.prog 43 plusRBase := by
  intro args p v hq hp
  unfold plusRBase at hq
  split at hq
  rotate_left
  · cases hq
  rename_i a b c d
  cases hq
  have pre := hp
  refine base_of (C := cx [] [] [] [] none) (cx_ok trivial trivial) rfl (g := 43) (fn := Try.f43)
    (args' := [.agg [.int .i64 a, .int .i64 b], .agg [.int .i64 c, .int .i64 d]]) (fn_43) rfl 1000 (by simp only [BdL, Bd, and_self, and_true, true_and]) ⟨SameD.rfl' _, SameD.rfl' _, trivial⟩ ?_
  simp only [Try.f43, go_sem, ↓reduceIte, Nat.reduceAdd, Nat.reduceSub, Nat.reduceMul, Nat.reduceEqDiff, Nat.reduceLT, Nat.reduceLeDiff, Int.reduceToNat, Int.reduceLE, Int.reduceLT, Int.reduceEq, Int.reduceNeg, reduceCtorEq]
  obtain ⟨p1, p2, p3, p4⟩ := pre
  unfold bg at *
  rw [wrap_id (x := a + c) (by omega) (by omega), wrap_id (x := b + d) (by omega) (by omega)]
def litresBase : BaseF := fun args => match args with
  | [.int .i64 n] => some (True, .bool (in3 n 1 1048576))
  | _ => none
theorem litres_eq (n : Int) : litresBase [.int .i64 n] = some (True, .bool (in3 n 1 1048576)) := rfl
theorem litres_base : Base Try.prog 69 litresBase := by
  intro args p v hq hp
  unfold litresBase at hq
  split at hq
  rotate_left
  · cases hq
  rename_i n
  cases hq
  refine base_of (C := cx [] [] [(36, withinBase)] [] none) (cx_ok trivial ⟨within_base, trivial⟩) rfl (g := 69) (fn := Try.f69)
    (args' := [.int .i64 n]) (fn_69) rfl 1000 (by simp only [BdL, Bd, and_self, and_true, true_and]) ⟨SameD.rfl' _, trivial⟩ ?_
  simp only [within_eq, Try.f69, go_sem, ↓reduceIte, Nat.reduceAdd, Nat.reduceSub, Nat.reduceMul, Nat.reduceEqDiff, Nat.reduceLT, Nat.reduceLeDiff, Int.reduceToNat, Int.reduceLE, Int.reduceLT, Int.reduceEq, Int.reduceNeg, reduceCtorEq]
def okS (v h : Int) : Bool := in3 v 1 1048576 && in3 h 0 4294967296
def badSlugBase : BaseF := fun args => match args with
  | [.agg [.int .i64 v, .int .i64 h]] => some (True, .bool (!okS v h))
  | _ => none
theorem badSlug_eq (v : Int) (h : Int) : badSlugBase [.agg [.int .i64 v, .int .i64 h]] = some (True, .bool (!okS v h)) := rfl
theorem badSlug_base : Base Try.prog 68 badSlugBase := by
  intro args p v hq hp
  unfold badSlugBase at hq
  split at hq
  rotate_left
  · cases hq
  rename_i v h
  cases hq
  refine base_of (C := cx [] [] [(69, litresBase), (49, isHeatBase)] [] none) (cx_ok trivial ⟨litres_base, isHeat_base, trivial⟩) rfl (g := 68) (fn := Try.f68)
    (args' := [.agg [.int .i64 v, .int .i64 h]]) (fn_68) rfl 1000 (by simp only [BdL, Bd, and_self, and_true, true_and]) ⟨SameD.rfl' _, trivial⟩ ?_
  simp only [litres_eq, isHeat_eq, Try.f68, go_sem, ↓reduceIte, Nat.reduceAdd, Nat.reduceSub, Nat.reduceMul, Nat.reduceEqDiff, Nat.reduceLT, Nat.reduceLeDiff, Int.reduceToNat, Int.reduceLE, Int.reduceLT, Int.reduceEq, Int.reduceNeg, reduceCtorEq]
  unfold okS
  cases in3 v 1 1048576 <;> simp [spl]
def sumBase : BaseF := fun args => match args with
  | [.row n sz_v f_v] => some ((sz_v = 2 ∧ IntR n 2 f_v) ∧ (n ≤ 1000 ∧ OkB (slL n (ivf f_v))), .agg [.int .i64 (smL (slL n (ivf f_v))).1, .int .i64 (smL (slL n (ivf f_v))).2])
  | _ => none
theorem sum_eq (n : Nat) (sz_v : Nat) (f_v : Nat → Nat → SV) : sumBase [.row n sz_v f_v] = some ((sz_v = 2 ∧ IntR n 2 f_v) ∧ (n ≤ 1000 ∧ OkB (slL n (ivf f_v))), .agg [.int .i64 (smL (slL n (ivf f_v))).1, .int .i64 (smL (slL n (ivf f_v))).2]) := rfl
theorem sum_base : Base Try.prog 42 sumBase := by
  intro args p v hq hp
  unfold sumBase at hq
  split at hq
  rotate_left
  · cases hq
  rename_i n sz_v f_v
  cases hq
  obtain ⟨⟨rfl, i_v⟩, pre⟩ := hp
  refine base_of (C := cx [] [] [(41, plusBase)] [] none) (cx_ok trivial ⟨plus_base, trivial⟩) rfl (g := 42) (fn := Try.f42)
    (args' := [.row n 2 (rowF .i64 (ivf f_v))]) (fn_42) rfl 1000 (by
    simp only [BdL, Bd, and_self, and_true, true_and]
    exact (fun i j hi hj => by rw [i_v i j hi hj]; trivial)) ⟨SameD.int i_v, trivial⟩ ?_
  generalize ivf f_v = v at *
  simp only [rowF_eq]
  simp only [plus_eq, Try.f42, go_sem, ↓reduceIte, Nat.reduceAdd, Nat.reduceSub, Nat.reduceMul, Nat.reduceEqDiff, Nat.reduceLT, Nat.reduceLeDiff, Int.reduceToNat, Int.reduceLE, Int.reduceLT, Int.reduceEq, Int.reduceNeg, reduceCtorEq]
  obtain ⟨hn, hv⟩ := pre
  refine loop_ofH { i : Nat // i ≤ n } (fun i => [(7, .int .i64 (i.1 : Int)), (6, .int .i64 (n : Int)), (5, .row n 2 fun i j => .int .i64 (v i j)), (2, .ptr 0 0)]) (fun _ i => { blks := [.live 23 [.int .i64 (smL (slL i.1 v)).1, .int .i64 (smL (slL i.1 v)).2]], vecs := [] }) (fun i => n - i.1) (fun _ => ⟨rfl, rfl⟩) ⟨0, by omega⟩ (by (apply sub_of <;> simp only [go_sem, ↓reduceIte, Nat.reduceAdd, Nat.reduceSub, Nat.reduceMul, Nat.reduceEqDiff, Nat.reduceLT, Nat.reduceLeDiff, Int.reduceToNat, Int.reduceLE, Int.reduceLT, Int.reduceEq, Int.reduceNeg, reduceCtorEq] <;> (try simp [catF]) <;> (try exact fun j _ => Bd_nth (by simp [BdL, Bd]) j) <;> (try exact bd_setL (by simp [bdAs, BdL, Bd])) <;> (try exact nestF_bd _ _ _ _ _ _ _ _ _)); exact ⟨rfl, rfl⟩) ?_
  rintro ⟨i, hi⟩
  simp only [plus_eq, Try.f42, go_sem, ↓reduceIte, Nat.reduceAdd, Nat.reduceSub, Nat.reduceMul, Nat.reduceEqDiff, Nat.reduceLT, Nat.reduceLeDiff, Int.reduceToNat, Int.reduceLE, Int.reduceLT, Int.reduceEq, Int.reduceNeg, reduceCtorEq]
  refine ⟨fun e1 => ?_, fun e1 => ?_⟩
  · simp only [decide_eq_true_eq] at e1
    have ik : i < n := by omega
    have h1 := (hv.take hi).sum
    have h2 := hv.at ik
    rw [slL_len] at h1
    have h3 : smL (slL (i + 1) v) = plS (smL (slL i v)) (v i 0, v i 1) := by rw [slL_succ, smL_app]; simp [smL, plS]
    unfold bg
    refine ⟨⟨by omega, by omega⟩, ⟨⟨by omega, by omega⟩, ⟨by omega, by omega⟩, ⟨by omega, by omega⟩, by omega, by omega⟩, ⟨i + 1, by omega⟩, by simp only []; omega, ?_⟩
    apply sub_of <;> simp only [wrap_s ik (show n ≤ 1000000 by omega), h3, plS, go_sem, ↓reduceIte, Nat.reduceAdd, Nat.reduceSub, Nat.reduceMul, Nat.reduceEqDiff, Nat.reduceLT, Nat.reduceLeDiff, Int.reduceToNat, Int.reduceLE, Int.reduceLT, Int.reduceEq, Int.reduceNeg, reduceCtorEq] <;> (try simp) <;> (try exact fun j _ => Bd_nth (by simp [BdL, Bd]) j) <;> (try exact bd_setL (by simp [bdAs, BdL, Bd])) <;> (try exact nestF_bd _ _ _ _ _ _ _ _ _)
  · simp only [decide_eq_false_iff_not] at e1
    obtain rfl : i = n := by omega
    rfl
def volumeBase : BaseF := fun args => match args with
  | [.row n sz_v f_v] => some ((sz_v = 2 ∧ IntR n 2 f_v) ∧ (n ≤ 1000 ∧ OkB (slL n (ivf f_v))), .int .i64 (smL (slL n (ivf f_v))).1)
  | _ => none
theorem volume_eq (n : Nat) (sz_v : Nat) (f_v : Nat → Nat → SV) : volumeBase [.row n sz_v f_v] = some ((sz_v = 2 ∧ IntR n 2 f_v) ∧ (n ≤ 1000 ∧ OkB (slL n (ivf f_v))), .int .i64 (smL (slL n (ivf f_v))).1) := rfl
theorem volume_base : Base Try.prog 64 volumeBase := by
  intro args p v hq hp
  unfold volumeBase at hq
  split at hq
  rotate_left
  · cases hq
  rename_i n sz_v f_v
  cases hq
  obtain ⟨⟨rfl, i_v⟩, pre⟩ := hp
  refine base_of (C := cx [] [] [] [] none) (cx_ok trivial trivial) rfl (g := 64) (fn := Try.f64)
    (args' := [.row n 2 (rowF .i64 (ivf f_v))]) (fn_64) rfl 1000 (by
    simp only [BdL, Bd, and_self, and_true, true_and]
    exact (fun i j hi hj => by rw [i_v i j hi hj]; trivial)) ⟨SameD.int i_v, trivial⟩ ?_
  generalize ivf f_v = v at *
  simp only [rowF_eq]
  simp only [Try.f64, go_sem, ↓reduceIte, Nat.reduceAdd, Nat.reduceSub, Nat.reduceMul, Nat.reduceEqDiff, Nat.reduceLT, Nat.reduceLeDiff, Int.reduceToNat, Int.reduceLE, Int.reduceLT, Int.reduceEq, Int.reduceNeg, reduceCtorEq]
  obtain ⟨hn, hv⟩ := pre
  refine loop_ofH { i : Nat // i ≤ n } (fun i => [(4, .int .i64 (i.1 : Int)), (3, .int .i64 (smL (slL i.1 v)).1), (0, .row n 2 fun i j => .int .i64 (v i j))]) (fun h _ => h) (fun i => n - i.1) (fun _ => ⟨rfl, rfl⟩) ⟨0, by omega⟩ (by (apply sub_of <;> simp only [go_sem, ↓reduceIte, Nat.reduceAdd, Nat.reduceSub, Nat.reduceMul, Nat.reduceEqDiff, Nat.reduceLT, Nat.reduceLeDiff, Int.reduceToNat, Int.reduceLE, Int.reduceLT, Int.reduceEq, Int.reduceNeg, reduceCtorEq] <;> (try simp [catF]) <;> (try exact fun j _ => Bd_nth (by simp [BdL, Bd]) j) <;> (try exact bd_setL (by simp [bdAs, BdL, Bd])) <;> (try exact nestF_bd _ _ _ _ _ _ _ _ _)); rfl) ?_
  rintro ⟨i, hi⟩
  simp only [Try.f64, go_sem, ↓reduceIte, Nat.reduceAdd, Nat.reduceSub, Nat.reduceMul, Nat.reduceEqDiff, Nat.reduceLT, Nat.reduceLeDiff, Int.reduceToNat, Int.reduceLE, Int.reduceLT, Int.reduceEq, Int.reduceNeg, reduceCtorEq]
  refine ⟨fun e1 => ?_, fun e1 => ?_⟩
  · simp only [decide_eq_true_eq] at e1
    have ik : i < n := by omega
    have h1 := (hv.take hi).sum
    have h2 := hv.at ik
    rw [slL_len] at h1
    have h3 : (smL (slL (i + 1) v)).1 = (smL (slL i v)).1 + v i 0 := by rw [slL_succ, smL_app]; simp [smL, plS]
    have h4 : IntKind.i64.wrap ((smL (slL i v)).1 + v i 0) = (smL (slL (i + 1) v)).1 := by rw [wrap_id (by omega) (by omega), h3]
    refine ⟨⟨by omega, by omega⟩, ⟨i + 1, by omega⟩, by simp only []; omega, ?_⟩
    apply sub_of <;> simp only [wrap_s ik (show n ≤ 1000000 by omega), h4, go_sem, ↓reduceIte, Nat.reduceAdd, Nat.reduceSub, Nat.reduceMul, Nat.reduceEqDiff, Nat.reduceLT, Nat.reduceLeDiff, Int.reduceToNat, Int.reduceLE, Int.reduceLT, Int.reduceEq, Int.reduceNeg, reduceCtorEq] <;> (try simp) <;> (try exact fun j _ => Bd_nth (by simp [BdL, Bd]) j) <;> (try exact bd_setL (by simp [bdAs, BdL, Bd])) <;> (try exact nestF_bd _ _ _ _ _ _ _ _ _)
  · simp only [decide_eq_false_iff_not] at e1
    obtain rfl : i = n := by omega
    rfl
def hasBadSBase : BaseF := fun args => match args with
  | [.row n sz_v f_v, .func g []] => some ((sz_v = 2 ∧ IntR n 2 f_v) ∧ (g = 68 ∧ n ≤ 1000000), .bool (!allU (fun i => okS ((ivf f_v) i 0) ((ivf f_v) i 1)) n))
  | _ => none
theorem hasBadS_eq (n : Nat) (sz_v : Nat) (f_v : Nat → Nat → SV) (g : Nat) : hasBadSBase [.row n sz_v f_v, .func g []] = some ((sz_v = 2 ∧ IntR n 2 f_v) ∧ (g = 68 ∧ n ≤ 1000000), .bool (!allU (fun i => okS ((ivf f_v) i 0) ((ivf f_v) i 1)) n)) := rfl
theorem hasBadS_base : Base Try.prog 70 hasBadSBase := by
  intro args p v hq hp
  unfold hasBadSBase at hq
  split at hq
  rotate_left
  · cases hq
  rename_i n sz_v f_v g
  cases hq
  obtain ⟨⟨rfl, i_v⟩, pre⟩ := hp
  refine base_of (C := cx [] [] [(68, badSlugBase)] [] none) (cx_ok trivial ⟨badSlug_base, trivial⟩) rfl (g := 70) (fn := Try.f70)
    (args' := [.row n 2 (rowF .i64 (ivf f_v)), .func g []]) (fn_70) rfl 1000 (by
    simp only [BdL, Bd, and_self, and_true, true_and]
    exact (fun i j hi hj => by rw [i_v i j hi hj]; trivial)) ⟨SameD.int i_v, SameD.rfl' _, trivial⟩ ?_
  generalize ivf f_v = v at *
  simp only [rowF_eq]
  simp only [badSlug_eq, Try.f76, Try.f70, go_sem, ↓reduceIte, Nat.reduceAdd, Nat.reduceSub, Nat.reduceMul, Nat.reduceEqDiff, Nat.reduceLT, Nat.reduceLeDiff, Int.reduceToNat, Int.reduceLE, Int.reduceLT, Int.reduceEq, Int.reduceNeg, reduceCtorEq]
  obtain ⟨rfl, hn⟩ := pre
  refine loop_ofH { i : Nat // i ≤ n ∧ ∀ j, j < i → (fun i => okS (v i 0) (v i 1)) j = true } (fun i => [(8, .int .i64 (i.1 : Int)), (7, .int .i64 (n : Int)), (1, .func 68 []), (0, .row n 2 fun i j => .int .i64 (v i j))]) (fun h _ => h) (fun i => n - i.1) (fun _ => ⟨rfl, rfl⟩) ⟨0, by omega, by omega⟩ (by (apply sub_of <;> simp only [go_sem, ↓reduceIte, Nat.reduceAdd, Nat.reduceSub, Nat.reduceMul, Nat.reduceEqDiff, Nat.reduceLT, Nat.reduceLeDiff, Int.reduceToNat, Int.reduceLE, Int.reduceLT, Int.reduceEq, Int.reduceNeg, reduceCtorEq] <;> (try simp [catF]) <;> (try exact fun j _ => Bd_nth (by simp [BdL, Bd]) j) <;> (try exact bd_setL (by simp [bdAs, BdL, Bd])) <;> (try exact nestF_bd _ _ _ _ _ _ _ _ _))) ?_
  rintro ⟨i, hi, h3⟩
  have h0 : (0 : Int) ≤ (i : Int) := by omega
  simp only [badSlug_eq, Try.f76, Try.f70, go_sem, ↓reduceIte, Nat.reduceAdd, Nat.reduceSub, Nat.reduceMul, Nat.reduceEqDiff, Nat.reduceLT, Nat.reduceLeDiff, Int.reduceToNat, Int.reduceLE, Int.reduceLT, Int.reduceEq, Int.reduceNeg, reduceCtorEq]
  refine ⟨fun e1 => ?_, fun e1 => ?_⟩
  · simp only [decide_eq_true_eq] at e1
    have ik : i < n := by omega
    refine ⟨⟨by omega, by omega⟩, fun e2 => ?_, fun e2 => ?_⟩
    · rw [allU_false (p := fun i => okS (v i 0) (v i 1)) ik (by simpa using e2)]; simp [h0]
    refine ⟨⟨i + 1, by omega, below h3 (by simpa using e2)⟩, by simp only []; omega, ?_⟩
    apply sub_of <;> simp only [wrap_s ik hn, go_sem, ↓reduceIte, Nat.reduceAdd, Nat.reduceSub, Nat.reduceMul, Nat.reduceEqDiff, Nat.reduceLT, Nat.reduceLeDiff, Int.reduceToNat, Int.reduceLE, Int.reduceLT, Int.reduceEq, Int.reduceNeg, reduceCtorEq] <;> (try simp) <;> (try exact fun j _ => Bd_nth (by simp [BdL, Bd]) j) <;> (try exact bd_setL (by simp [bdAs, BdL, Bd])) <;> (try exact nestF_bd _ _ _ _ _ _ _ _ _)
  · simp only [decide_eq_false_iff_not] at e1
    obtain rfl : i = n := by omega
    rw [allU_true h3]; rfl
/-- A product that is not too large. -/
theorem mul_bd {h n : Int} (h1 : 0 ≤ h ∧ h ≤ 4398046511104) (h2 : 0 ≤ n ∧ n ≤ 1048576) : 0 ≤ h * n ∧ h * n ≤ 4611686018427387904 := by
  refine ⟨Int.mul_nonneg h1.1 h2.1, ?_⟩
  have := Int.mul_le_mul h1.2 h2.2 h2.1 (by omega)
  omega
theorem tkS_lt {v h n : Int} (hlt : n < v) : tkS (v, h) n = (n, (h * n).tdiv v) := by simp [tkS, hlt]
def takeRBase : BaseF := fun args => match args with
  | [.agg [.int .i64 v, .int .i64 h], .int .i64 n] => some ((1 ≤ n ∧ n ≤ v ∧ v ≤ 1048576 ∧ 0 ≤ h ∧ h ≤ 4398046511104), .tup [.agg [.int .i64 (tkS (v, h) n).1, .int .i64 (tkS (v, h) n).2], .agg [.int .i64 (v - (tkS (v, h) n).1), .int .i64 (h - (tkS (v, h) n).2)]])
  | _ => none
theorem takeR_eq (v : Int) (h : Int) (n : Int) : takeRBase [.agg [.int .i64 v, .int .i64 h], .int .i64 n] = some ((1 ≤ n ∧ n ≤ v ∧ v ≤ 1048576 ∧ 0 ≤ h ∧ h ≤ 4398046511104), .tup [.agg [.int .i64 (tkS (v, h) n).1, .int .i64 (tkS (v, h) n).2], .agg [.int .i64 (v - (tkS (v, h) n).1), .int .i64 (h - (tkS (v, h) n).2)]]) := rfl
theorem takeR_base : Base Try.prog 62 takeRBase := by
  intro args p v hq hp
  unfold takeRBase at hq
  split at hq
  rotate_left
  · cases hq
  rename_i v h n
  cases hq
  have pre := hp
  refine base_of (C := cx [] [] [] [(62, 4, p62_4)] none) (cx_ok trivial trivial) rfl (g := 62) (fn := Try.f62)
    (args' := [.agg [.int .i64 v, .int .i64 h], .int .i64 n]) (fn_62) rfl 1000 (by simp only [BdL, Bd, and_self, and_true, true_and]) ⟨SameD.rfl' _, SameD.rfl' _, trivial⟩ ?_
  simp only [p62_4, Try.f62, go_sem, ↓reduceIte, Nat.reduceAdd, Nat.reduceSub, Nat.reduceMul, Nat.reduceEqDiff, Nat.reduceLT, Nat.reduceLeDiff, Int.reduceToNat, Int.reduceLE, Int.reduceLT, Int.reduceEq, Int.reduceNeg, reduceCtorEq]
  obtain ⟨p1, p2, p3, p4, p5⟩ := pre
  refine ⟨fun e => ?_, fun e => ⟨by omega, ⟨by kernel_rfl, by kernel_rfl⟩, ?_⟩⟩
  · obtain rfl : n = v := by simpa using e
    simp [tkS]
  · have hlt : n < v := by have : n ≠ v := by simpa using e
                           omega
    have hb := mul_bd ⟨p4, p5⟩ ⟨(by omega : 0 ≤ n), by omega⟩
    have ht := tkS_bd (x := (v, h)) p1 p4 hlt
    rw [tkS_lt hlt] at ht ⊢
    simp only at ht ⊢
    rw [wrap_id (x := h * n) (by omega) (by omega), wrap_id (x := (h * n).tdiv v) (by omega) (by omega), wrap_id (x := v - n) (by omega) (by omega), wrap_id (x := h - (h * n).tdiv v) (by omega) (by omega)]
end Go.Eng
end

/- brine: what is valid. -/
section
namespace Go.Eng
open Go Go.RowKit Go.Proofs
set_option maxRecDepth 100000
set_option maxHeartbeats 4000000
attribute [local irreducible] OwnT DefS
theorem OkB_of {n : Nat} {v : Nat → Nat → Int} (h : allU (fun i => okS (v i 0) (v i 1)) n = true) : OkB (slL n v) := fun x hx => by
  obtain ⟨i, hi, rfl⟩ := slL_mem hx
  have := allU_iff.1 h i hi
  simp only [okS, Bool.and_eq_true, in3_iff] at this
  omega
def okPp (r : Int) (m : Nat) (v : Nat → Nat → Int) : Bool := in3 r 1 1048576 && (decide (m ≤ 16) && (allU (fun i => okS (v i 0) (v i 1)) m && decide ((smL (slL m v)).1 ≤ r)))
def okBr (tv th : Int) (n : Nat) (A : Nat → Nat → Int) (M : Nat → Nat) (V : Nat → Nat → Nat → Int) (he hr : Int) : Bool :=
  (in3 tv 0 1048576 && (in3 th 0 4294967296 && (decide (0 < tv) || decide (th = 0)))) && ((in3 hr 0 4294967296 && in3 he 0 hr) && (in3 (n : Int) 1 8 && allU (fun i => okPp (A i 0) (M i) (V i)) n))
def isPipeBase : BaseF := fun args => match args with
  | [.agg [.int .i64 r, .row m sz_v f_v]] => some ((sz_v = 2 ∧ IntR m 2 f_v), .bool (okPp r m (ivf f_v)))
  | _ => none
theorem isPipe_eq (r : Int) (m : Nat) (sz_v : Nat) (f_v : Nat → Nat → SV) : isPipeBase [.agg [.int .i64 r, .row m sz_v f_v]] = some ((sz_v = 2 ∧ IntR m 2 f_v), .bool (okPp r m (ivf f_v))) := rfl
theorem isPipe_base : Base Try.prog 52 isPipeBase := by
  intro args p v hq hp
  unfold isPipeBase at hq
  split at hq
  rotate_left
  · cases hq
  rename_i r m sz_v f_v
  cases hq
  obtain ⟨rfl, i_v⟩ := hp
  refine base_of (C := cx [] [] [(69, litresBase), (70, hasBadSBase), (42, sumBase), (68, badSlugBase)] [(52, 2, p52_2)] none) (cx_ok trivial ⟨litres_base, hasBadS_base, sum_base, badSlug_base, trivial⟩) rfl (g := 52) (fn := Try.f52)
    (args' := [.agg [.int .i64 r, .row m 2 (rowF .i64 (ivf f_v))]]) (fn_52) rfl 1000 (by
    simp only [BdL, Bd, and_self, and_true, true_and]
    exact (fun i j hi hj => by rw [i_v i j hi hj]; trivial)) ⟨SameD.agg ⟨SameD.rfl' _, SameD.int i_v, trivial⟩, trivial⟩ ?_
  generalize ivf f_v = v
  simp only [rowF_eq]
  simp only [litres_eq, hasBadS_eq, sum_eq, badSlug_eq, p52_2, Try.f52, go_sem, ↓reduceIte, Nat.reduceAdd, Nat.reduceSub, Nat.reduceMul, Nat.reduceEqDiff, Nat.reduceLT, Nat.reduceLeDiff, Int.reduceToNat, Int.reduceLE, Int.reduceLT, Int.reduceEq, Int.reduceNeg, reduceCtorEq]
  unfold okPp
  refine ⟨⟨by kernel_rfl, by kernel_rfl⟩, fun a1 => ⟨fun a2 => ⟨by simp at a2; omega, fun a3 => ⟨⟨by simp at a2; omega, OkB_of (by simpa using a3)⟩, ?_⟩, fun a3 => ?_⟩, fun a2 => ?_⟩, fun a1 => ?_⟩
  · have a2' : decide (m ≤ 16) = true := by simp at a2 ⊢; omega
    have a3' : allU (fun i => okS (v i 0) (v i 1)) m = true := by simpa using a3
    rw [a1, a2', a3']; rfl
  · have a3' : allU (fun i => okS (v i 0) (v i 1)) m = false := by simpa using a3
    rw [a3', Bool.false_and, Bool.and_false, Bool.and_false]
  · have a2' : decide (m ≤ 16) = false := by simp at a2 ⊢; omega
    rw [a2', Bool.false_and, Bool.and_false]
  · rw [a1, Bool.false_and]
def notPipeBase : BaseF := fun args => match args with
  | [.agg [.int .i64 r, .row m sz_v f_v]] => some ((sz_v = 2 ∧ IntR m 2 f_v), .bool (!okPp r m (ivf f_v)))
  | _ => none
theorem notPipe_eq (r : Int) (m : Nat) (sz_v : Nat) (f_v : Nat → Nat → SV) : notPipeBase [.agg [.int .i64 r, .row m sz_v f_v]] = some ((sz_v = 2 ∧ IntR m 2 f_v), .bool (!okPp r m (ivf f_v))) := rfl
theorem notPipe_base : Base Try.prog 51 notPipeBase := by
  intro args p v hq hp
  unfold notPipeBase at hq
  split at hq
  rotate_left
  · cases hq
  rename_i r m sz_v f_v
  cases hq
  obtain ⟨rfl, i_v⟩ := hp
  refine base_of (C := cx [] [] [(52, isPipeBase)] [] none) (cx_ok trivial ⟨isPipe_base, trivial⟩) rfl (g := 51) (fn := Try.f51)
    (args' := [.agg [.int .i64 r, .row m 2 (rowF .i64 (ivf f_v))]]) (fn_51) rfl 1000 (by
    simp only [BdL, Bd, and_self, and_true, true_and]
    exact (fun i j hi hj => by rw [i_v i j hi hj]; trivial)) ⟨SameD.agg ⟨SameD.rfl' _, SameD.int i_v, trivial⟩, trivial⟩ ?_
  generalize ivf f_v = v
  simp only [rowF_eq]
  simp only [isPipe_eq, Try.f51, go_sem, ↓reduceIte, Nat.reduceAdd, Nat.reduceSub, Nat.reduceMul, Nat.reduceEqDiff, Nat.reduceLT, Nat.reduceLeDiff, Int.reduceToNat, Int.reduceLE, Int.reduceLT, Int.reduceEq, Int.reduceNeg, reduceCtorEq]
def hasBadPBase : BaseF := fun args => match args with
  | [.row n sz_A f_A, .func g []] => some ((sz_A = 2 ∧ NestR n 2 1 2 f_A) ∧ (g = 51 ∧ n ≤ 1000000), .bool (!allU (fun i => okPp ((nsA f_A) i 0) ((nsM 1 f_A) i) ((nsV 1 f_A) i)) n))
  | _ => none
theorem hasBadP_eq (n : Nat) (sz_A : Nat) (f_A : Nat → Nat → SV) (g : Nat) : hasBadPBase [.row n sz_A f_A, .func g []] = some ((sz_A = 2 ∧ NestR n 2 1 2 f_A) ∧ (g = 51 ∧ n ≤ 1000000), .bool (!allU (fun i => okPp ((nsA f_A) i 0) ((nsM 1 f_A) i) ((nsV 1 f_A) i)) n)) := rfl
theorem hasBadP_base : Base Try.prog 50 hasBadPBase := by
  intro args p v hq hp
  unfold hasBadPBase at hq
  split at hq
  rotate_left
  · cases hq
  rename_i n sz_A f_A g
  cases hq
  obtain ⟨⟨rfl, i_A⟩, pre⟩ := hp
  refine base_of (C := cx [] [] [(51, notPipeBase)] [] none) (cx_ok trivial ⟨notPipe_base, trivial⟩) rfl (g := 50) (fn := Try.f50)
    (args' := [.row n 2 (nestF 1 2 (nsA f_A) (nsM 1 f_A) (nsV 1 f_A)), .func g []]) (fn_50) rfl 1000 (by
    simp only [BdL, Bd, and_self, and_true, true_and]
    exact (fun i j hi hj => nest_bd i_A i j hi hj)) ⟨SameD.nest i_A, SameD.rfl' _, trivial⟩ ?_
  generalize nsA f_A = A at *
  generalize nsM 1 f_A = M at *
  generalize nsV 1 f_A = V at *
  simp only [notPipe_eq, Try.f67, nestF11_0, nestF11_1, Try.f50, go_sem, ↓reduceIte, Nat.reduceAdd, Nat.reduceSub, Nat.reduceMul, Nat.reduceEqDiff, Nat.reduceLT, Nat.reduceLeDiff, Int.reduceToNat, Int.reduceLE, Int.reduceLT, Int.reduceEq, Int.reduceNeg, reduceCtorEq]
  obtain ⟨rfl, hn⟩ := pre
  refine loop_ofH { i : Nat // i ≤ n ∧ ∀ j, j < i → (fun i => okPp (A i 0) (M i) (V i)) j = true } (fun i => [(8, .int .i64 (i.1 : Int)), (7, .int .i64 (n : Int)), (1, .func 51 []), (0, .row n 2 (nestF 1 2 A M V))]) (fun h _ => h) (fun i => n - i.1) (fun _ => ⟨rfl, rfl⟩) ⟨0, by omega, by omega⟩ (by (apply sub_of <;> simp only [go_sem, ↓reduceIte, Nat.reduceAdd, Nat.reduceSub, Nat.reduceMul, Nat.reduceEqDiff, Nat.reduceLT, Nat.reduceLeDiff, Int.reduceToNat, Int.reduceLE, Int.reduceLT, Int.reduceEq, Int.reduceNeg, reduceCtorEq] <;> (try simp [catF]) <;> (try exact fun j _ => Bd_nth (by simp [BdL, Bd]) j) <;> (try exact bd_setL (by simp [bdAs, BdL, Bd])) <;> (try exact nestF_bd _ _ _ _ _ _ _ _ _))) ?_
  rintro ⟨i, hi, h3⟩
  have h0 : (0 : Int) ≤ (i : Int) := by omega
  simp only [notPipe_eq, Try.f67, nestF11_0, nestF11_1, Try.f50, go_sem, ↓reduceIte, Nat.reduceAdd, Nat.reduceSub, Nat.reduceMul, Nat.reduceEqDiff, Nat.reduceLT, Nat.reduceLeDiff, Int.reduceToNat, Int.reduceLE, Int.reduceLT, Int.reduceEq, Int.reduceNeg, reduceCtorEq]
  refine ⟨fun e1 => ?_, fun e1 => ?_⟩
  · simp only [decide_eq_true_eq] at e1
    have ik : i < n := by omega
    refine ⟨⟨by omega, by omega⟩, fun e2 => ?_, fun e2 => ?_⟩
    · rw [allU_false (p := fun i => okPp (A i 0) (M i) (V i)) ik (by simpa using e2)]; simp [h0]
    refine ⟨⟨i + 1, by omega, below h3 (by simpa using e2)⟩, by simp only []; omega, ?_⟩
    apply sub_of <;> simp only [wrap_s ik hn, go_sem, ↓reduceIte, Nat.reduceAdd, Nat.reduceSub, Nat.reduceMul, Nat.reduceEqDiff, Nat.reduceLT, Nat.reduceLeDiff, Int.reduceToNat, Int.reduceLE, Int.reduceLT, Int.reduceEq, Int.reduceNeg, reduceCtorEq] <;> (try simp) <;> (try exact fun j _ => Bd_nth (by simp [BdL, Bd]) j) <;> (try exact bd_setL (by simp [bdAs, BdL, Bd])) <;> (try exact nestF_bd _ _ _ _ _ _ _ _ _)
  · simp only [decide_eq_false_iff_not] at e1
    obtain rfl : i = n := by omega
    rw [allU_true h3]; rfl
def isBrineBase : BaseF := fun args => match args with
  | [.agg [.int .i64 tv, .int .i64 th, .row n sz_A f_A, .int .i64 he, .int .i64 hr]] => some ((sz_A = 2 ∧ NestR n 2 1 2 f_A) ∧ (n ≤ 1000000), .bool (okBr tv th n (nsA f_A) (nsM 1 f_A) (nsV 1 f_A) he hr))
  | _ => none
theorem isBrine_eq (tv : Int) (th : Int) (n : Nat) (sz_A : Nat) (f_A : Nat → Nat → SV) (he : Int) (hr : Int) : isBrineBase [.agg [.int .i64 tv, .int .i64 th, .row n sz_A f_A, .int .i64 he, .int .i64 hr]] = some ((sz_A = 2 ∧ NestR n 2 1 2 f_A) ∧ (n ≤ 1000000), .bool (okBr tv th n (nsA f_A) (nsM 1 f_A) (nsV 1 f_A) he hr)) := rfl
theorem isBrine_base : Base Try.prog 31 isBrineBase := by
  intro args p v hq hp
  unfold isBrineBase at hq
  split at hq
  rotate_left
  · cases hq
  rename_i tv th n sz_A f_A he hr
  cases hq
  obtain ⟨⟨rfl, i_A⟩, pre⟩ := hp
  refine base_of (C := cx [] [] [(36, withinBase), (49, isHeatBase), (50, hasBadPBase), (51, notPipeBase)] [] none) (cx_ok trivial ⟨within_base, isHeat_base, hasBadP_base, notPipe_base, trivial⟩) rfl (g := 31) (fn := Try.f31)
    (args' := [.agg [.int .i64 tv, .int .i64 th, .row n 2 (nestF 1 2 (nsA f_A) (nsM 1 f_A) (nsV 1 f_A)), .int .i64 he, .int .i64 hr]]) (fn_31) rfl 1000 (by
    simp only [BdL, Bd, and_self, and_true, true_and]
    exact (fun i j hi hj => nest_bd i_A i j hi hj)) ⟨SameD.agg ⟨SameD.rfl' _, SameD.rfl' _, SameD.nest i_A, SameD.rfl' _, SameD.rfl' _, trivial⟩, trivial⟩ ?_
  generalize nsA f_A = A at *
  generalize nsM 1 f_A = M at *
  generalize nsV 1 f_A = V at *
  simp only [within_eq, isHeat_eq, hasBadP_eq, notPipe_eq, nestR_lit, nsM_lit, nsV_lit, Try.f31, go_sem, ↓reduceIte, Nat.reduceAdd, Nat.reduceSub, Nat.reduceMul, Nat.reduceEqDiff, Nat.reduceLT, Nat.reduceLeDiff, Int.reduceToNat, Int.reduceLE, Int.reduceLT, Int.reduceEq, Int.reduceNeg, reduceCtorEq]
  simp only [nsA_lit _ (show (0 : Nat) ≠ 1 by omega), pre, true_and, Bool.not_not]
  unfold okBr
  generalize in3 tv 0 1048576 = b1
  generalize in3 th 0 4294967296 = b2
  generalize decide (0 < tv) = b3
  generalize decide (th = 0) = b4
  generalize in3 hr 0 4294967296 = b5
  generalize in3 he 0 hr = b6
  generalize in3 (n : Int) 1 8 = b7
  cases b1 <;> cases b2 <;> cases b3 <;> cases b4 <;> cases b5 <;> cases b6 <;> cases b7 <;> simp [spl]
theorem okBr_eq {tv th : Int} {n : Nat} {A : Nat → Nat → Int} {M : Nat → Nat} {V : Nat → Nat → Nat → Int} {he hr : Int} (ht : (in3 tv 0 1048576 && (in3 th 0 4294967296 && (decide (0 < tv) || decide (th = 0)))) = true) :
    okBr tv th n A M V he hr = ((in3 hr 0 4294967296 && in3 he 0 hr) && (in3 (n : Int) 1 8 && allU (fun i => okPp (A i 0) (M i) (V i)) n)) := by rw [okBr, ht, Bool.true_and]
def BrineRBase : BaseF := fun args => match args with
  | [.agg [.int .i64 tv, .int .i64 th, .row n sz_A f_A, .int .i64 he, .int .i64 hr]] => some ((sz_A = 2 ∧ NestR n 2 1 2 f_A) ∧ (n ≤ 1000000 ∧ ∀ i, i < n → (nsM 1 f_A) i ≤ 1000000), .bool (okBr tv th n (nsA f_A) (nsM 1 f_A) (nsV 1 f_A) he hr))
  | _ => none
theorem BrineR_eq (tv : Int) (th : Int) (n : Nat) (sz_A : Nat) (f_A : Nat → Nat → SV) (he : Int) (hr : Int) : BrineRBase [.agg [.int .i64 tv, .int .i64 th, .row n sz_A f_A, .int .i64 he, .int .i64 hr]] = some ((sz_A = 2 ∧ NestR n 2 1 2 f_A) ∧ (n ≤ 1000000 ∧ ∀ i, i < n → (nsM 1 f_A) i ≤ 1000000), .bool (okBr tv th n (nsA f_A) (nsM 1 f_A) (nsV 1 f_A) he hr)) := rfl
theorem BrineR_base : Base Try.prog 15 BrineRBase := by
  intro args p v hq hp
  unfold BrineRBase at hq
  split at hq
  rotate_left
  · cases hq
  rename_i tv th n sz_A f_A he hr
  cases hq
  obtain ⟨⟨rfl, i_A⟩, pre⟩ := hp
  refine base_of (C := cx [] [] [(37, inBase)] [] none) (cx_ok trivial ⟨in_base, trivial⟩) rfl (g := 15) (fn := Try.f15)
    (args' := [.agg [.int .i64 tv, .int .i64 th, .row n 2 (nestF 1 2 (nsA f_A) (nsM 1 f_A) (nsV 1 f_A)), .int .i64 he, .int .i64 hr]]) (fn_15) rfl 1000 (by
    simp only [BdL, Bd, and_self, and_true, true_and]
    exact (fun i j hi hj => nest_bd i_A i j hi hj)) ⟨SameD.agg ⟨SameD.rfl' _, SameD.rfl' _, SameD.nest i_A, SameD.rfl' _, SameD.rfl' _, trivial⟩, trivial⟩ ?_
  generalize nsA f_A = A at *
  generalize nsM 1 f_A = M at *
  generalize nsV 1 f_A = V at *
  simp only [in_eq, nestF11_0, nestF11_1, Try.f15, go_sem, ↓reduceIte, Nat.reduceAdd, Nat.reduceSub, Nat.reduceMul, Nat.reduceEqDiff, Nat.reduceLT, Nat.reduceLeDiff, Int.reduceToNat, Int.reduceLE, Int.reduceLT, Int.reduceEq, Int.reduceNeg, reduceCtorEq]
  obtain ⟨hn, hm⟩ := pre
  refine ⟨fun a1 => by rw [okBr]; simp_all, fun a1 => ⟨fun a2 => by rw [okBr]; simp_all, fun a2 => ⟨fun a3 => ⟨fun a4 => ?_, fun a4 => ?_⟩, fun a3 => ?_⟩⟩⟩
  · simp only [decide_eq_true_eq] at a3 a4
    rw [okBr, decide_eq_false (p := 0 < tv) (by omega), decide_eq_false (p := th = 0) (by omega)]
    simp
  all_goals
    have ht : (in3 tv 0 1048576 && (in3 th 0 4294967296 && (decide (0 < tv) || decide (th = 0)))) = true := by
      simp only [Bool.not_eq_false', in3_iff, decide_eq_true_eq, decide_eq_false_iff_not] at a1 a2 a3
      try simp only [decide_eq_false_iff_not] at a4
      simp only [Bool.and_eq_true, Bool.or_eq_true, in3_iff, decide_eq_true_eq]
      omega
    rw [okBr_eq ht]
    clear a1 a2 a3 ht
  all_goals try clear a4
  all_goals refine loop_ofH { i : Nat // i ≤ n ∧ i ≤ 9 ∧ ∀ j, j < i → (fun i => okPp (A i 0) (M i) (V i)) j = true } (fun i => [(3, .int .i64 (i.1 : Int)), (1, .ptr 0 0)]) (fun _ _ => { blks := [.live 26 [.int .i64 tv, .int .i64 th, .row n 2 (nestF 1 2 A M V), .int .i64 he, .int .i64 hr]], vecs := [] }) (fun i => n - i.1) (fun _ => ⟨rfl, rfl⟩) ⟨0, by omega, by omega, by omega⟩ (by (apply sub_of <;> simp only [go_sem, ↓reduceIte, Nat.reduceAdd, Nat.reduceSub, Nat.reduceMul, Nat.reduceEqDiff, Nat.reduceLT, Nat.reduceLeDiff, Int.reduceToNat, Int.reduceLE, Int.reduceLT, Int.reduceEq, Int.reduceNeg, reduceCtorEq] <;> (try simp [catF]) <;> (try exact fun j _ => Bd_nth (by simp [BdL, Bd]) j) <;> (try exact bd_setL (by simp [bdAs, BdL, Bd])) <;> (try exact nestF_bd _ _ _ _ _ _ _ _ _))) ?_
  all_goals rintro ⟨i, hi, hi9, h3⟩
  all_goals simp only [in_eq, nestF11_0, nestF11_1, Try.f15, go_sem, ↓reduceIte, Nat.reduceAdd, Nat.reduceSub, Nat.reduceMul, Nat.reduceEqDiff, Nat.reduceLT, Nat.reduceLeDiff, Int.reduceToNat, Int.reduceLE, Int.reduceLT, Int.reduceEq, Int.reduceNeg, reduceCtorEq]
  all_goals
    refine ⟨fun e1 => ⟨fun e2 => ?_, fun e2 => ⟨fun e3 => ?_, fun e3 => ?_⟩⟩, fun e1 => ⟨fun e3 => ?_, fun e3 => ?_⟩⟩
  rotate_left 6
  rotate_left 1
  rotate_left 1
  rotate_left 1
  all_goals first
    | (exfalso; simp only [decide_eq_true_eq, decide_eq_false_iff_not, in3_iff] at e1 e2 e3; omega)
    | (rw [e3]; simp; done)
    | (rw [e3, allU_true (p := fun i => okPp (A i 0) (M i) (V i)) (by intro j hj; exact h3 j (by simp only [decide_eq_false_iff_not] at e1; omega))]
       cases in3 hr 0 4294967296 <;> simp [spl]; done)
    | skip
  all_goals
    simp only [decide_eq_true_eq] at e1
    have ik : i < n := by omega
    refine ⟨⟨by omega, by omega⟩, fun c1 => ?_, fun c1 => ⟨fun c2 => ?_, fun c2 => ?_⟩⟩
    · rw [allU_false (p := fun i => okPp (A i 0) (M i) (V i)) ik (by simp only [Bool.not_eq_true'] at c1; simp [okPp, c1])]; simp
    · rw [allU_false (p := fun i => okPp (A i 0) (M i) (V i)) ik (by simp only [decide_eq_true_eq] at c2; simp [okPp]; omega)]; simp
    have hM : M i ≤ 16 := by simp only [decide_eq_false_iff_not] at c2; omega
    refine loop_ofH { k : Nat // k ≤ M i ∧ ∀ j, j < k → (fun k => okS (V i k 0) (V i k 1)) j = true } (fun k => [(6, .int .i64 (k.1 : Int)), (5, .int .i64 (smL (slL k.1 (V i))).1), (4, .ptr 1 0), (3, .int .i64 (i : Int)), (1, .ptr 0 0)]) (fun h _ => h) (fun k => M i - k.1) (fun _ => ⟨rfl, rfl⟩) ⟨0, by omega, by omega⟩ (by (apply sub_of <;> simp only [go_sem, ↓reduceIte, Nat.reduceAdd, Nat.reduceSub, Nat.reduceMul, Nat.reduceEqDiff, Nat.reduceLT, Nat.reduceLeDiff, Int.reduceToNat, Int.reduceLE, Int.reduceLT, Int.reduceEq, Int.reduceNeg, reduceCtorEq] <;> (try simp [catF]) <;> (try exact fun j _ => Bd_nth (by simp [BdL, Bd]) j) <;> (try exact bd_setL (by simp [bdAs, BdL, Bd])) <;> (try exact nestF_bd _ _ _ _ _ _ _ _ _)); rfl) ?_
    rintro ⟨k, hk, g3⟩
    simp only [in_eq, nestF11_0, nestF11_1, Try.f15, go_sem, ↓reduceIte, Nat.reduceAdd, Nat.reduceSub, Nat.reduceMul, Nat.reduceEqDiff, Nat.reduceLT, Nat.reduceLeDiff, Int.reduceToNat, Int.reduceLE, Int.reduceLT, Int.reduceEq, Int.reduceNeg, reduceCtorEq]
    refine ⟨fun e1 => ?_, fun e1 => ?_⟩
    · simp only [decide_eq_true_eq] at e1
      have kk : k < M i := by omega
      refine ⟨⟨by omega, by omega⟩, fun q1 => ?_, fun q1 => ⟨⟨by omega, by omega⟩, fun q2 => ?_, fun q2 => ⟨⟨by omega, by omega⟩, ?_⟩⟩⟩
      · rw [allU_false (p := fun i => okPp (A i 0) (M i) (V i)) ik (by
          have : allU (fun k => okS (V i k 0) (V i k 1)) (M i) = false := allU_false (p := fun k => okS (V i k 0) (V i k 1)) kk (by simp only [Bool.not_eq_true'] at q1; simp [okS, q1])
          simp only [okPp, this, Bool.false_and, Bool.and_false])]; simp
      · rw [allU_false (p := fun i => okPp (A i 0) (M i) (V i)) ik (by
          have : allU (fun k => okS (V i k 0) (V i k 1)) (M i) = false := allU_false (p := fun k => okS (V i k 0) (V i k 1)) kk (by simp only [Bool.not_eq_true'] at q2; simp [okS, q2])
          simp only [okPp, this, Bool.false_and, Bool.and_false])]; simp
      have hS : (fun k => okS (V i k 0) (V i k 1)) k = true := by simp only [Bool.not_eq_false'] at q1 q2; simp [okS, q1, q2]
      have hb := OkB_of (allU_true (p := fun k => okS (V i k 0) (V i k 1)) (below g3 hS))
      have h1 := (hb.take (show k ≤ k + 1 by omega)).sum
      have h2 := hb.at (show k < k + 1 by omega)
      rw [slL_len] at h1
      have h4 : (smL (slL (k + 1) (V i))).1 = (smL (slL k (V i))).1 + V i k 0 := by rw [slL_succ, smL_app]; simp [smL, plS]
      have h5 : IntKind.i64.wrap ((smL (slL k (V i))).1 + V i k 0) = (smL (slL (k + 1) (V i))).1 := by rw [wrap_id (by omega) (by omega), h4]
      refine ⟨⟨k + 1, by omega, below g3 hS⟩, by simp only []; omega, ?_⟩
      apply sub_of <;> simp only [wrap_s kk (show M i ≤ 1000000 by omega), h5, go_sem, ↓reduceIte, Nat.reduceAdd, Nat.reduceSub, Nat.reduceMul, Nat.reduceEqDiff, Nat.reduceLT, Nat.reduceLeDiff, Int.reduceToNat, Int.reduceLE, Int.reduceLT, Int.reduceEq, Int.reduceNeg, reduceCtorEq] <;> (try simp) <;> (try exact fun j _ => Bd_nth (by simp [BdL, Bd]) j) <;> (try exact bd_setL (by simp [bdAs, BdL, Bd])) <;> (try exact nestF_bd _ _ _ _ _ _ _ _ _)
    · simp only [decide_eq_false_iff_not] at e1
      obtain rfl : k = M i := by omega
      refine ⟨fun q1 => ?_, fun q1 => ?_⟩
      · rw [allU_false (p := fun i => okPp (A i 0) (M i) (V i)) ik (by
          simp only [decide_eq_true_eq] at q1
          have : decide ((smL (slL (M i) (V i))).1 ≤ A i 0) = false := decide_eq_false (by omega)
          simp only [okPp, this, Bool.and_false])]; simp
      have hP : (fun i => okPp (A i 0) (M i) (V i)) i = true := by
        simp only [decide_eq_false_iff_not, Bool.not_eq_false'] at q1 c1
        simp only [okPp, c1, allU_true (p := fun k => okS (V i k 0) (V i k 1)) g3, Bool.true_and, decide_eq_true_eq, Bool.and_eq_true]
        omega
      simp only [decide_eq_true_eq] at e2
      refine ⟨⟨i + 1, by omega, by omega, below h3 hP⟩, by simp only []; omega, ?_⟩
      apply sub_of <;> simp only [wrap_s ik hn, go_sem, ↓reduceIte, Nat.reduceAdd, Nat.reduceSub, Nat.reduceMul, Nat.reduceEqDiff, Nat.reduceLT, Nat.reduceLeDiff, Int.reduceToNat, Int.reduceLE, Int.reduceLT, Int.reduceEq, Int.reduceNeg, reduceCtorEq] <;> (try simp) <;> (try exact fun j _ => Bd_nth (by simp [BdL, Bd]) j) <;> (try exact bd_setL (by simp [bdAs, BdL, Bd])) <;> (try exact nestF_bd _ _ _ _ _ _ _ _ _)
end Go.Eng
end

/- brine: the plant in memory; into. -/
section
namespace Go.Eng
open Go Go.RowKit Go.Proofs
set_option maxRecDepth 100000
set_option maxHeartbeats 4000000
attribute [local irreducible] OwnT DefS
def slV (v : Nat) (l : List Sl) : Vc := .live v 23 2 l.length (fun k j => .int .i64 (slI l k j))
def piF (b : Nat) (room : Nat → Int) (ver : Nat → Nat) : Nat → Nat → SV := fun i j => if j = 0 then .int .i64 (room i) else if j = 1 then .vec (fI b i) (ver i) else .any
def upN (ver : Nat → Nat) (i v : Nat) : Nat → Nat := fun j => if j = i then v else ver j
theorem piF_0 (b : Nat) (room : Nat → Int) (ver : Nat → Nat) (i : Nat) : piF b room ver i 0 = .int .i64 (room i) := rfl
theorem piF_1 (b : Nat) (room : Nat → Int) (ver : Nat → Nat) (i : Nat) : piF b room ver i 1 = .vec (fI b i) (ver i) := rfl
theorem piF_upd (b : Nat) (room : Nat → Int) (ver : Nat → Nat) (i v : Nat) : updF (piF b room ver) i 1 1 [.vec (fI b i) v] = piF b room (upN ver i v) := by
  funext a j
  simp only [updF, piF, upN]
  by_cases h1 : a = i
  · subst h1
    by_cases h2 : j = 0
    · subst h2; simp
    · by_cases h3 : j = 1
      · subst h3; simp [nth]
      · rw [if_neg (by omega)]; simp [h2, h3]
  · simp [h1]
theorem upN_same (ver : Nat → Nat) (i v : Nat) : upN ver i v i = v := by simp [upN]
/-- Slugs, and one more behind them. -/
def catS1 (l : List Sl) (a b : Int) : Nat → Nat → SV := catF l.length (fun k j => .int .i64 (slI l k j)) (oneF [.int .i64 a, .int .i64 b])
theorem catS1_eq (l : List Sl) (a b : Int) : catF l.length (fun k j => .int .i64 (slI l k j)) (oneF [.int .i64 a, .int .i64 b]) = catS1 l a b := rfl
theorem catS1_at (l : List Sl) (a b : Int) {k j : Nat} (hk : k < l.length + 1) (hj : j < 2) : catS1 l a b k j = .int .i64 (slI (l ++ [(a, b)]) k j) := by
  have hj' : j = 0 ∨ j = 1 := by omega
  rcases Nat.lt_or_ge k l.length with h | h
  · simp only [catS1, catF, if_pos h, slI, List.getD_eq_getElem?_getD, List.getElem?_append_left h]
  · obtain rfl : k = l.length := by omega
    rcases hj' with rfl | rfl <;> simp [catS1, catF, slI, oneF, nth]
theorem catS1_ints (l : List Sl) (a b : Int) : IntR (l.length + 1) 2 (catS1 l a b) := fun k j hk hj => by rw [catS1_at l a b hk hj]; rfl
theorem catS1_intR (l : List Sl) (a b : Int) : IntR (l.length + 1) 2 (catS1 l a b) = True := eq_true (catS1_ints l a b)
theorem catS1_slL (l : List Sl) (a b : Int) : slL (l.length + 1) (ivf (catS1 l a b)) = l ++ [(a, b)] := by
  have : slL (l.length + 1) (ivf (catS1 l a b)) = slL (l ++ [(a, b)]).length (slI (l ++ [(a, b)])) := by
    rw [show (l ++ [(a, b)]).length = l.length + 1 by simp]
    exact slL_congr fun i j hi hj => by simp only [ivf, catS1_at l a b hi hj, iv]
  rw [this, slL_slI]
theorem catS1_frz (d : Nat) (h : HS) (l : List Sl) (a b : Int) (k j : Nat) : frzF (d + 1) h (catS1 l a b k j) = catS1 l a b k j := by
  simp only [catS1, catF]
  split
  · rfl
  · match j with
    | 0 => rfl
    | 1 => rfl
    | _ + 2 => rfl
/-- What is in the plant but for tank and pipes. -/
structure Rst where
  he : Int
  hr : Int
  w : Int
  lv : Int
  lh : Int
  fv : Int
  fh : Int
  ch : Int
  ai : Int
  us : Int
  bo : Int
def plB (t : Sl) (R : Rst) : Blk := .live 74 [.int .i64 t.1, .int .i64 t.2, .vec 0 0, .int .i64 R.he, .int .i64 R.hr, .int .i64 R.w, .int .i64 R.lv, .int .i64 R.lh, .int .i64 R.fv, .int .i64 R.fh, .int .i64 R.ch, .int .i64 R.ai, .int .i64 R.us, .int .i64 R.bo]
def pipes (N : Nat) (room : Nat → Int) (ver : Nat → Nat) : Vc := .live 0 50 2 N (piF 1 room ver)
def heapS (N : Nat) (room : Nat → Int) (s : TkP) (ver : Nat → Nat) (R : Rst) : HS := ⟨[plB s.t R], fam [pipes N room ver] N (fun i => slV (ver i) (s.sl i)) []⟩
theorem upN_upN (ver : Nat → Nat) (i v w : Nat) : upN (upN ver i v) i w = upN ver i w := by funext j; simp only [upN]; split <;> rfl
theorem fam_post (pre : List Vc) (N : Nat) (f : Nat → Vc) (V : List Vc) : fam pre N f [] ++ V = fam pre N f V := by simp [fam]
theorem pipes_bd {N : Nat} {room : Nat → Int} {ver : Nat → Nat} {L M : Nat} (hM : N + 1 ≤ M) : bdV L M [pipes N room ver] :=
  ⟨fun i j hi hj => by
    have : j = 0 ∨ j = 1 := by omega
    rcases this with rfl | rfl
    · trivial
    · show fI 1 i < M
      simp only [fI]; omega, trivial⟩
theorem slV_bd {v : Nat} {l : List Sl} {L M : Nat} : bdV L M [slV v l] := ⟨fun _ _ _ _ => trivial, trivial⟩
theorem heapS_bdV {N : Nat} {room : Nat → Int} {s : TkP} {ver : Nat → Nat} {R : Rst} {L M : Nat} (hM : N + 1 ≤ M) : bdV L M (heapS N room s ver R).vecs :=
  bdV_famI (pipes_bd hM) (fun _ _ => slV_bd) trivial
theorem plB_bd {t : Sl} {R : Rst} {L M : Nat} (hM : 0 < M) : bdB2 L M [plB t R] := by simp [plB, bdB2, BdL, Bd]; exact hM
theorem plB_bd1 {t : Sl} {R : Rst} {L M : Nat} (hM : 0 < M) : bdB L M [plB t R] := by simp [plB, bdB, BdL, Bd]; exact hM
theorem subVk_rfl (x : Vc) : subVk x x := by cases x <;> simp [subVk]
theorem plB_sub {t : Sl} {R : Rst} {B : List Blk} : subB (plB t R :: B) [plB t R] := by simp [plB, subB, subBk, subL, subX]
theorem pipes_sub {N : Nat} {room : Nat → Int} {ver : Nat → Nat} : subV [pipes N room ver] [pipes N room ver] := by simp [pipes, subV, subVk]
theorem subV_nil (V : List Vc) : subV V [] := by cases V <;> exact trivial
/-- Of what lies about, the plant is kept. -/
theorem heap_sub {N : Nat} {room : Nat → Int} {s : TkP} {ver : Nat → Nat} {R : Rst} {x : SV} (hx : subX x x) (hb : ∀ L M, Bd L M x) {B : List Blk} {V : List Vc} {f : Nat → Vc} (hf : ∀ i, i < N → subVk (f i) (slV (ver i) (s.sl i))) :
    SubS [x] ⟨plB s.t R :: B, fam [pipes N room ver] N f V⟩ ([x], heapS N room s ver R) := by
  have hM : lenV (heapS N room s ver R).vecs = N + 1 := by simp only [heapS, fam_lenV, fP, lenV]; omega
  refine ⟨⟨hx, trivial⟩, plB_sub, subV_famI rfl pipes_sub hf (subV_nil V), ⟨hb _ _, trivial⟩, plB_bd (by simp only []; rw [hM]; omega), heapS_bdV (by simp only []; rw [hM]; exact Nat.le_refl _)⟩
theorem heap_lB {N : Nat} {room : Nat → Int} {s s' : TkP} {ver ver' : Nat → Nat} {R R' : Rst} {x : Blk} {B : List Blk} :
    lenB (heapS N room s ver R).blks ≤ lenB (heapS N room s' ver' R').blks ∧ lenB (heapS N room s' ver' R').blks ≤ lenB (x :: B) := by
  simp only [heapS, lenB]; omega
theorem heap_lV {N : Nat} {room : Nat → Int} {s s' : TkP} {ver ver' : Nat → Nat} {R R' : Rst} {f : Nat → Vc} {x : Vc} {V : List Vc} :
    lenV (heapS N room s ver R).vecs ≤ lenV (heapS N room s' ver' R').vecs ∧ lenV (heapS N room s' ver' R').vecs ≤ lenV (fam [x] N f V) := by
  simp only [heapS, fam_lenV, fP, lenV]
  omega
/-- A call over the plant alone, used where more is about. -/
theorem calls_plant {P : Program} {g : Nat} {args : List SV} {N : Nat} {room : Nat → Int} {s : TkP} {ver : Nat → Nat} {R : Rst} {K : Out → TkP → Rst → Prop} (ha : BdL 1 (N + 1) args)
    (hO : ∀ o s' R', K o s' R' → (∃ x, (o = .ret x ∨ o = .pan x) ∧ Bd 1 (N + 1) x ∧ renS (fun n => n) (fun n => n) x = x))
    (hc : CallsS P g args (heapS N room s ver R) (fun o h' => ∃ s' ver' R', K o s' R' ∧ h' = heapS N room s' ver' R')) (B : List Blk) (V : List Vc) {f : Nat → Vc} (hf : f = fun i => slV (ver i) (s.sl i)) :
    CallsS P g args ⟨plB s.t R :: B, fam [pipes N room ver] N f V⟩ (fun o h' => ∃ s' ver' R', K o s' R' ∧ h' = ⟨plB s'.t R' :: B, fam [pipes N room ver'] N (fun i => slV (ver' i) (s'.sl i)) V⟩) := by
  subst hf
  have hM : ∀ (s : TkP) (ver : Nat → Nat) (R : Rst), (heapS N room s ver R).vecs.length = N + 1 := fun s ver R => by simp only [heapS, fam_len, List.length_cons, List.length_nil]; omega
  have hL : ∀ (s : TkP) (ver : Nat → Nat) (R : Rst), (heapS N room s ver R).blks.length = 1 := fun s ver R => rfl
  have := calls_pfx hc (by rw [hM, hL]; exact ha) (by rw [hM, hL]; exact plB_bd1 (by omega)) (by rw [hM, hL]; exact heapS_bdV (Nat.le_refl _)) (by
    rintro o h' ⟨s', ver', R', hk, rfl⟩
    obtain ⟨x, hx, hb, hr⟩ := hO _ _ _ hk
    refine ⟨by rw [hL, hL], by rw [hM, hM], by rw [hM, hL]; exact plB_bd1 (by omega), by rw [hM, hL]; exact heapS_bdV (Nat.le_refl _), ?_⟩
    rw [hM, hL]
    rcases hx with rfl | rfl <;> exact hb) B V
  simp only [heapS, fam_post, List.cons_append, List.nil_append] at this
  refine calls_mono ?_ this
  rintro o h' ⟨o0, h0', ⟨s', ver', R', hk, rfl⟩, rfl, rfl⟩
  obtain ⟨x, hx, hb, hr⟩ := hO _ _ _ hk
  refine ⟨s', ver', R', ?_, by simp only [fam_post, List.cons_append, List.nil_append]⟩
  rcases hx with rfl | rfl
  · simp only [renO, hr]; exact hk
  · simp only [renO, hr]; exact hk
theorem catS1_sub {v : Nat} {l : List Sl} {a b : Int} : subVk (.live v 23 2 (l.length + 1) (catS1 l a b)) (slV v (l ++ [(a, b)])) :=
  ⟨rfl, rfl, rfl, by simp, fun i j hi hj => catS1_at l a b (by simpa using hi) hj⟩
theorem updV_sub {f g : Nat → Vc} {i : Nat} {x : Vc} {N : Nat} (h1 : subVk x (g i)) (h2 : ∀ j, j < N → j ≠ i → subVk (f j) (g j)) : ∀ j, j < N → subVk (updV f i x j) (g j) := fun j hj => by
  by_cases e : j = i
  · subst e; rw [updV_same]; exact h1
  · rw [updV_ne e]; exact h2 j hj e
/-- Where a flow stands: what is still to flow, out of what; what has flowed out. -/
structure FlI where
  n : Int
  l : List Sl
  acc : List Sl
  v : Nat
  va : Nat
structure FlI.Ok (full : List Sl) (n0 : Int) (p : FlI) : Prop where
  eq : flowM full n0 = (p.acc ++ (flowM p.l p.n).1, (flowM p.l p.n).2)
  n0 : 0 ≤ p.n
  n1 : p.n ≤ volL p.l
  ok : OkL p.l
  len : p.acc.length + p.l.length ≤ 17 ∨ (p.n = 0 ∧ p.acc.length + p.l.length ≤ 18)
  heat : heatL p.l ≤ 4398046511104
  big : ∀ y ∈ p.l, y.1 ≤ 1048576
theorem FlI.Ok.pop {full : List Sl} {n0 n : Int} {y : Sl} {l acc : List Sl} {v va v' va' : Nat} (h : FlI.Ok full n0 ⟨n, y :: l, acc, v, va⟩) (hn : 0 < n) (hy : y.1 ≤ n) : FlI.Ok full n0 ⟨n - y.1, l, acc ++ [y], v', va'⟩ := by
  have h1 := h.eq
  have h2 := h.n1
  have h3 := h.ok.cons
  have h4 := h.len
  have h5 := h.heat
  rw [flowM_pop hn hy] at h1
  simp only [volL_cons, heatL_cons, List.length_cons] at h2 h4 h5
  refine ⟨by rw [h1]; simp, by simp only []; omega, by simp only []; omega, h3.2, ?_, by simp only []; omega, fun z hz => h.big z (by simp [hz])⟩
  simp only [List.length_append, List.length_cons, List.length_nil]; omega
theorem FlI.Ok.cut {full : List Sl} {n0 n : Int} {y : Sl} {l acc : List Sl} {v va v' va' : Nat} (h : FlI.Ok full n0 ⟨n, y :: l, acc, v, va⟩) (hn : 0 < n) (hy : n < y.1) : FlI.Ok full n0 ⟨0, mnS y (tkS y n) :: l, acc ++ [tkS y n], v', va'⟩ := by
  have h1 := h.eq
  have h2 := h.n1
  have h3 := h.ok.cons
  have h5 := h.heat
  have h6 := tkS_bd (x := y) (n := n) (by omega) h3.1.2 hy
  have h7 := h.big y (by simp)
  have h8 := h3.2.vol
  have h9 := h.len
  simp only [List.length_cons] at h9
  rw [flowM_cut hn hy] at h1
  simp only [heatL_cons] at h5
  refine ⟨?_, by simp only []; omega, ?_, ?_, .inr ⟨rfl, by simp only [List.length_append, List.length_cons, List.length_nil]; omega⟩, ?_, ?_⟩
  · rw [h1, flowM_neg _ (Int.le_refl _)]; simp
  · simp only [volL_cons, mnS]; omega
  · intro z hz
    rcases List.mem_cons.1 hz with rfl | hz
    · simp only [mnS]; omega
    · exact h3.2 z hz
  · simp only [heatL_cons, mnS]; omega
  · intro z hz
    rcases List.mem_cons.1 hz with rfl | hz
    · simp only [mnS]; omega
    · exact h.big z (by simp [hz])
theorem slI_c0 (y : Sl) (l : List Sl) : slI (y :: l) 0 0 = y.1 := rfl
theorem slI_c1 (y : Sl) (l : List Sl) : slI (y :: l) 0 1 = y.2 := rfl
theorem slI_cs (y : Sl) (l : List Sl) (k j : Nat) : slI (y :: l) (1 + k) j = slI l k j := by simp [slI, Nat.add_comm 1 k]
theorem vol_big {B : Int} : ∀ {l : List Sl}, (∀ y ∈ l, y.1 ≤ B) → volL l ≤ B * (l.length : Int)
  | [], _ => by simp [volL_nil]
  | x :: l, h => by
    have h1 := vol_big (l := l) (fun y hy => h y (by simp [hy]))
    have h2 := h x (by simp)
    rw [volL_cons]
    simp only [List.length_cons, Int.natCast_add, Int.mul_add]
    omega
theorem pop_sub {v m : Nat} {y : Sl} {l : List Sl} (hm : m = l.length) : subVk (.live v 23 2 m fun i j => if 1 + i = 0 ∧ 1 ≤ j ∧ j < 2 then nth [.int .i64 0] (j - 1) else if 1 + i = 0 ∧ 0 ≤ j ∧ j < 1 then nth [.int .i64 0] (j - 0) else .int .i64 (slI (y :: l) (1 + i) j)) (slV v l) :=
  ⟨rfl, rfl, rfl, hm, fun i j hi hj => by
    simp only []
    rw [if_neg (by omega), if_neg (by omega), slI_cs]⟩
theorem cut_sub {v : Nat} {y z : Sl} {l : List Sl} {a b : Int} (ha : a = z.1) (hb : b = z.2) : subVk (.live v 23 2 (l.length + 1) (updF (updF (fun k j => .int .i64 (slI (y :: l) k j)) 0 0 1 [.int .i64 a]) 0 1 1 [.int .i64 b])) (slV v (z :: l)) :=
  ⟨rfl, rfl, rfl, rfl, fun i j hi hj => by
    subst ha hb
    have hj' : j = 0 ∨ j = 1 := by omega
    rcases hj' with rfl | rfl
    · cases i with
      | zero => simp [updF, nth, slI]
      | succ i => simp [updF, slI]
    · cases i with
      | zero => simp [updF, nth, slI]
      | succ i => simp [updF, slI]⟩
theorem mrg_sub {v : Nat} {l : List Sl} (hl : l.length = 17) : subVk (.live v 23 2 16 fun i j => if i = 15 ∧ 0 ≤ j ∧ j < 2 then nth [.int .i64 (slI l 15 0 + slI l 16 0), .int .i64 (slI l 15 1 + slI l 16 1)] (j - 0) else .int .i64 (slI l i j)) (slV v (mrg l)) := by
  have hm : mrg l = l.take 15 ++ [plS (l.getD 15 (0, 0)) (l.getD 16 (0, 0))] := by simp only [mrg, hl]; rfl
  have hml : (mrg l).length = 16 := by rw [hm]; simp [hl]
  refine ⟨rfl, rfl, rfl, hml.symm, fun i j hi hj => ?_⟩
  rw [hml] at hi
  simp only []
  have hj' : j = 0 ∨ j = 1 := by omega
  by_cases e : i = 15
  · subst e
    rw [if_pos ⟨rfl, by omega, hj⟩]
    have : slI (mrg l) 15 j = if j = 0 then slI l 15 0 + slI l 16 0 else slI l 15 1 + slI l 16 1 := by
      rw [hm]
      simp only [slI, List.getD_eq_getElem?_getD]
      rw [List.getElem?_append_right (by simp [hl])]
      simp [hl, plS]
    rw [this]
    rcases hj' with rfl | rfl <;> rfl
  · rw [if_neg (by omega), hm]
    simp only [slI, List.getD_eq_getElem?_getD]
    have hi' : i < 15 := by omega
    rw [List.getElem?_append_left (by rw [List.length_take]; omega), List.getElem?_take, if_pos hi']
theorem take_slI {l : List Sl} {j : Nat} (hj : j < l.length) : l.take (j + 1) = l.take j ++ [(slI l j 0, slI l j 1)] := by
  have e : (slI l j 0, slI l j 1) = l[j] := by simp [slI, hj]
  rw [List.take_add_one, e, List.getElem?_eq_getElem hj]
  rfl
/-- The j-th of slugs, with those ahead of it, is no more than all. -/
theorem OkL.upto {l : List Sl} (h : OkL l) {j : Nat} (hj : j < l.length) : (1 ≤ slI l j 0 ∧ 0 ≤ slI l j 1) ∧ (smL (l.take j)).1 + slI l j 0 ≤ volL l ∧ (smL (l.take j)).2 + slI l j 1 ≤ heatL l ∧ 0 ≤ (smL (l.take j)).1 ∧ 0 ≤ (smL (l.take j)).2 := by
  have h1 : OkL (l.take j) := fun y hy => h y (List.mem_of_mem_take hy)
  have h2 : OkL (l.drop (j + 1)) := fun y hy => h y (List.mem_of_mem_drop hy)
  have e : (slI l j 0, slI l j 1) = l[j] := by simp [slI, hj]
  have h3 := h _ (show (slI l j 0, slI l j 1) ∈ l by rw [e]; exact List.getElem_mem hj)
  have h4 : smL l = plS (plS (smL (l.take j)) (slI l j 0, slI l j 1)) (smL (l.drop (j + 1))) := by
    conv => lhs; rw [← List.take_append_drop (j + 1) l, take_slI hj]
    rw [smL_app, smL_app]
    simp [smL, plS]
  have h5 := h1.vol
  have h6 := h1.heat
  have h7 := h2.vol
  have h8 := h2.heat
  simp only [plS, Prod.ext_iff] at h4
  unfold volL heatL at *
  simp only at h3
  omega
theorem fam_bdL {N m L : Nat} {f : Nat → Vc} {pre post : List Vc} (h1 : bdV L (fP 1 N m) pre) (h2 : ∀ i, i < N → ∃ v l, f i = slV v l) (h3 : bdV L (fP 1 N m) post) : bdV L (fP 1 N m) (fam pre N f post) :=
  bdV_famI h1 (fun i hi => by obtain ⟨v, l, e⟩ := h2 i hi; rw [e]; exact slV_bd) h3
theorem updV_slV {ver : Nat → Nat} {sl : Nat → List Sl} {i v : Nat} {l : List Sl} : ∀ j, ∃ v' l', updV (fun i => slV (ver i) (sl i)) i (slV v l) j = slV v' l' := fun j => by
  by_cases e : j = i
  · subst e; exact ⟨v, l, updV_same _ _ _⟩
  · exact ⟨ver j, sl j, updV_ne e⟩
end Go.Eng
end

/- brine: what an event does. The plain law. -/
section
namespace Go.Eng
/-- The share of heat of the i-th slug. -/
def wN (l : List Sl) (h : Int) (i : Nat) : Int := (h * slI l i 0).tdiv (volL l)
def warmL (l : List Sl) (h : Int) : List Sl := (List.range l.length).map fun i => (slI l i 0, slI l i 1 + if i + 1 < l.length then wN l h i else h - smN (wN l h) (l.length - 1))
abbrev Stp := Int × TkP × Rst
def pumpM (N : Nat) (room : Nat → Int) (s : TkP) (R : Rst) (a : Int) : Stp :=
  if in3 a 1 1048576 then if s.t.1 < a then (10, s, R) else (0, intoK N room N ⟨mnS s.t (tkS s.t a), s.sl⟩ (tkS s.t a), R) else (1, s, R)
def warmM (N : Nat) (s : TkP) (R : Rst) (p h : Int) : Stp :=
  if in3 p 0 ((N : Int) - 1) && in3 h 0 4294967296 then if (s.sl p.toNat).length = 0 then (6, s, R) else (0, ⟨s.t, upL s.sl p.toNat (warmL (s.sl p.toNat) h)⟩, { R with w := R.w + h }) else (1, s, R)
def leakO (l : List Sl) (a : Int) : List Sl × List Sl := flowM l (min a (volL l))
def leakM (N : Nat) (s : TkP) (R : Rst) (p a : Int) : Stp :=
  if in3 p 0 ((N : Int) - 1) && in3 a 1 1048576 then (0, ⟨s.t, upL s.sl p.toNat (leakO (s.sl p.toNat) a).2⟩, { R with lv := R.lv + (smL (leakO (s.sl p.toNat) a).1).1, lh := R.lh + (smL (leakO (s.sl p.toNat) a).1).2 }) else (1, s, R)
def fillM (s : TkP) (R : Rst) (a h : Int) : Stp :=
  if in3 a 1 1048576 && in3 h 0 4294967296 then if s.t.1 + a ≤ 1048576 then (0, ⟨(s.t.1 + a, s.t.2 + h), s.sl⟩, { R with fv := R.fv + a, fh := R.fh + h }) else (12, s, R) else (1, s, R)
def chillM (s : TkP) (R : Rst) (h : Int) : Stp :=
  if in3 h 0 4294967296 then if h ≤ s.t.2 then (0, ⟨(s.t.1, s.t.2 - h), s.sl⟩, { R with he := min (R.he + h) R.hr, ch := R.ch + h, ai := R.ai + (R.he + h - min (R.he + h) R.hr) }) else (10, s, R) else (1, s, R)
def useM (s : TkP) (R : Rst) (h : Int) : Stp :=
  if in3 h 0 4294967296 then (0, s, { R with he := R.he - min h R.he, us := R.us + h, bo := R.bo + (h - min h R.he) }) else (1, s, R)
/-- What an event does: its error (then nothing), or the plant behind it. -/
def doM (N : Nat) (room : Nat → Int) (s : TkP) (R : Rst) (k p a h : Int) : Stp :=
  if k = 0 then pumpM N room s R a else if k = 1 then warmM N s R p h else if k = 2 then leakM N s R p a else if k = 3 then fillM s R a h else if k = 4 then chillM s R h else if k = 5 then useM s R h else (1, s, R)
/-- A plant that can be, with bounds. -/
structure POk (N : Nat) (room : Nat → Int) (s : TkP) (R : Rst) (H : Int) : Prop where
  ok : s.Ok N room
  t1 : s.t.1 ≤ 1048576
  tz : s.t.1 = 0 → s.t.2 = 0
  heat : s.heat N + R.lh ≤ H
  lh : 0 ≤ R.lh
  he : 0 ≤ R.he ∧ R.he ≤ R.hr ∧ R.hr ≤ 4294967296
  w : 0 ≤ R.w ∧ R.w ≤ H
  lv : 0 ≤ R.lv ∧ R.lv ≤ H
  fv : 0 ≤ R.fv ∧ R.fv ≤ H
  fh : 0 ≤ R.fh ∧ R.fh ≤ H
  ch : 0 ≤ R.ch ∧ R.ch ≤ H
  ai : 0 ≤ R.ai ∧ R.ai ≤ H
  us : 0 ≤ R.us ∧ R.us ≤ H
  bo : 0 ≤ R.bo ∧ R.bo ≤ H
theorem POk.mono {N : Nat} {room : Nat → Int} {s : TkP} {R : Rst} {H H' : Int} (h : POk N room s R H) (hH : H ≤ H') : POk N room s R H' := by
  obtain ⟨a1, a2, az, a3, a4, a5, a6, a7, a8, a9, a10, a11, a12, a13⟩ := h
  exact ⟨a1, a2, az, by omega, a4, a5, by omega, by omega, by omega, by omega, by omega, by omega, by omega, by omega⟩
theorem warmL_len (l : List Sl) (h : Int) : (warmL l h).length = l.length := by simp [warmL]
theorem warmL_get {l : List Sl} {h : Int} {i : Nat} (hi : i < l.length) : (warmL l h)[i]? = some (slI l i 0, slI l i 1 + if i + 1 < l.length then wN l h i else h - smN (wN l h) (l.length - 1)) := by
  simp [warmL, hi]
theorem smL_map (F : Nat → Sl) : ∀ n, smL ((List.range n).map F) = (smN (fun i => (F i).1) n, smN (fun i => (F i).2) n)
  | 0 => rfl
  | n + 1 => by rw [List.range_succ, List.map_append, smL_app, smL_map F n]; simp [smL, plS, smN]
theorem smL_slI (l : List Sl) : smL l = (smN (fun i => slI l i 0) l.length, smN (fun i => slI l i 1) l.length) := by
  conv => lhs; rw [← slL_slI l]
  exact smL_map _ _
theorem smN_add (f g : Nat → Int) : ∀ n, smN (fun i => f i + g i) n = smN f n + smN g n
  | 0 => rfl
  | n + 1 => by simp only [smN, smN_add f g n]; omega
theorem warmL_sum {l : List Sl} {h : Int} (hl : l.length ≠ 0) : smL (warmL l h) = (volL l, heatL l + h) := by
  obtain ⟨n, hn⟩ : ∃ n, l.length = n + 1 := ⟨l.length - 1, by omega⟩
  have e := smL_slI l
  rw [warmL, smL_map]
  simp only [volL, heatL, e, Prod.mk.injEq, true_and]
  rw [smN_add, hn]
  simp only [smN]
  rw [if_neg (by omega), smN_congr (f := fun i => if i + 1 < n + 1 then wN l h i else h - smN (wN l h) (n + 1 - 1)) (g := wN l h) n (fun i hi => if_pos (by omega))]
  simp only [Nat.add_sub_cancel]
  omega
theorem OkL.pos {l : List Sl} (h : OkL l) (hl : l.length ≠ 0) : 1 ≤ volL l := by have := h.vol; omega
theorem OkL.at {l : List Sl} (h : OkL l) {i : Nat} (hi : i < l.length) : 1 ≤ slI l i 0 ∧ 0 ≤ slI l i 1 := (h.upto hi).1
/-- The shares of the first slugs are no more than all. -/
theorem wN_sum {l : List Sl} {h : Int} (ok : OkL l) (h0 : 0 ≤ h) : ∀ n, n ≤ l.length → (∀ i, i < n → 0 ≤ wN l h i) ∧ (l.length ≠ 0 → smN (wN l h) n * volL l ≤ h * smN (fun i => slI l i 0) n)
  | 0, _ => ⟨fun i hi => absurd hi (Nat.not_lt_zero _), fun _ => by simp [smN]⟩
  | n + 1, hn => by
    obtain ⟨h1, h2⟩ := wN_sum ok h0 n (by omega)
    have ha := ok.at (show n < l.length by omega)
    have hp := ok.pos (by omega)
    have hm : 0 ≤ h * slI l n 0 := Int.mul_nonneg h0 (by omega)
    have hw : wN l h n * volL l ≤ h * slI l n 0 := by
      unfold wN
      rw [Int.tdiv_eq_ediv_of_nonneg hm]
      exact Int.ediv_mul_le _ (by omega)
    refine ⟨fun i hi => ?_, fun hl => ?_⟩
    · rcases Nat.lt_or_ge i n with g | g
      · exact h1 i g
      · obtain rfl : i = n := by omega
        exact Int.tdiv_nonneg hm (by omega)
    · have := h2 hl
      simp only [smN, Int.add_mul, Int.mul_add]
      omega
theorem wN_le {l : List Sl} {h : Int} (ok : OkL l) (h0 : 0 ≤ h) {n : Nat} (hn : n ≤ l.length) (hl : l.length ≠ 0) : 0 ≤ smN (wN l h) n ∧ smN (wN l h) n ≤ h := by
  obtain ⟨h1, h2⟩ := wN_sum ok h0 n hn
  refine ⟨smN_nonneg n h1, ?_⟩
  have hp := ok.pos hl
  have h3 := h2 hl
  have h4 : smN (fun i => slI l i 0) n ≤ volL l := by
    have e := smL_slI l
    simp only [volL, e]
    have : ∀ m, n ≤ m → m ≤ l.length → smN (fun i => slI l i 0) n ≤ smN (fun i => slI l i 0) m := fun m => by
      induction m with
      | zero => intro a _; obtain rfl : n = 0 := by omega
                exact Int.le_refl _
      | succ m ih =>
        intro a b
        rcases Nat.lt_or_ge m n with g | g
        · obtain rfl : n = m + 1 := by omega
          exact Int.le_refl _
        · have := ih (by omega) (by omega)
          have := ok.at (show m < l.length by omega)
          simp only [smN]; omega
    exact this _ hn (Nat.le_refl _)
  have h5 : h * smN (fun i => slI l i 0) n ≤ h * volL l := Int.mul_le_mul_of_nonneg_left h4 h0
  exact Int.le_of_mul_le_mul_right (Int.le_trans h3 h5) (by omega)
theorem warmL_ok {l : List Sl} {h : Int} (ok : OkL l) (h0 : 0 ≤ h) : OkL (warmL l h) := fun x hx => by
  simp only [warmL, List.mem_map, List.mem_range] at hx
  obtain ⟨i, hi, rfl⟩ := hx
  have ha := ok.at hi
  refine ⟨ha.1, ?_⟩
  simp only []
  split
  · have := (wN_sum ok h0 l.length (Nat.le_refl _)).1 i hi; omega
  · have := (wN_le ok h0 (show l.length - 1 ≤ l.length by omega) (by omega)).2; omega
/-- One pipe has other slugs. -/
theorem TkP.Ok.upd {N : Nat} {room : Nat → Int} {s : TkP} (h : s.Ok N room) {i : Nat} (hi : i < N) {l : List Sl} (h1 : OkL l) (h2 : volL l ≤ room i) (h3 : l.length ≤ 16) {t : Sl} (ht : 0 ≤ t.1 ∧ 0 ≤ t.2) : TkP.Ok N room ⟨t, upL s.sl i l⟩ := by
  refine ⟨ht, fun j hj => ?_, fun j hj => ?_, fun j hj => ?_⟩ <;> simp only [upL] <;> split
  · exact h1
  · exact h.ok j hj
  · rename_i e; subst e; exact h2
  · exact h.room j hj
  · exact h3
  · exact h.len j hj
theorem heat_upd {N : Nat} {s : TkP} {i : Nat} (hi : i < N) {l : List Sl} {t : Sl} : TkP.heat N ⟨t, upL s.sl i l⟩ = t.2 + smN (fun i => heatL (s.sl i)) N + (heatL l - heatL (s.sl i)) := by
  simp only [TkP.heat]
  rw [smN_upd (f := fun j => heatL (s.sl j)) (g := fun j => heatL (upL s.sl i l j)) (i := i) N hi (fun j hj hne => by simp [upL, hne])]
  simp [upL]
  omega
theorem vol_upd {N : Nat} {s : TkP} {i : Nat} (hi : i < N) {l : List Sl} {t : Sl} : TkP.vol N ⟨t, upL s.sl i l⟩ = t.1 + smN (fun i => volL (s.sl i)) N + (volL l - volL (s.sl i)) := by
  simp only [TkP.vol]
  rw [smN_upd (f := fun j => volL (s.sl j)) (g := fun j => volL (upL s.sl i l j)) (i := i) N hi (fun j hj hne => by simp [upL, hne])]
  simp [upL]
  omega
theorem tkS_all {x : Sl} {n : Int} (h1 : 1 ≤ n) (h2 : n ≤ x.1) (h3 : 0 ≤ x.2) : (tkS x n).1 = n ∧ 0 ≤ (tkS x n).2 ∧ (tkS x n).2 ≤ x.2 := by
  rcases Int.lt_or_eq_of_le h2 with h | h
  · have := tkS_bd h1 h3 h; omega
  · have : tkS x n = x := by rw [tkS, if_neg (by omega)]
    rw [this]; omega
/-- What an event leaves: what is conserved. -/
structure Kept (N : Nat) (s s' : TkP) (R R' : Rst) : Prop where
  hr : R'.hr = R.hr
  heat : s'.heat N + R'.lh + R'.he + R'.ai + R'.us + R.w + R.fh + R.bo = s.heat N + R.lh + R.he + R.ai + R.us + R'.w + R'.fh + R'.bo
  vol : s'.vol N + R'.lv + R.fv = s.vol N + R.lv + R'.fv
theorem Kept.rfl' (N : Nat) (s : TkP) (R : Rst) : Kept N s s R R := ⟨rfl, by omega, by omega⟩
theorem Kept.trans {N : Nat} {s s' s'' : TkP} {R R' R'' : Rst} (h : Kept N s s' R R') (k : Kept N s' s'' R' R'') : Kept N s s'' R R'' :=
  ⟨k.hr.trans h.hr, by have := h.heat; have := k.heat; omega, by have := h.vol; have := k.vol; omega⟩
def Fine (N : Nat) (room : Nat → Int) (s : TkP) (R : Rst) (H : Int) (r : Stp) : Prop := POk N room r.2.1 r.2.2 (H + 8589934592) ∧ Kept N s r.2.1 R r.2.2
theorem fine_same {N : Nat} {room : Nat → Int} {s : TkP} {R : Rst} {H : Int} (h : POk N room s R H) (e : Int) : Fine N room s R H (e, s, R) := ⟨h.mono (by omega), Kept.rfl' _ _ _⟩
theorem pump_fine {N : Nat} {room : Nat → Int} (hroom : ∀ i, i < N → 0 ≤ room i ∧ room i ≤ 1048576) {s : TkP} {R : Rst} {H : Int} (h : POk N room s R H) (a : Int) : Fine N room s R H (pumpM N room s R a) := by
  unfold pumpM
  split
  · rename_i ha
    obtain ⟨ha1, ha2⟩ := in3_iff.1 ha
    split
    · exact fine_same h _
    · rename_i hl
      have ht := h.ok.t
      obtain ⟨t1, t2, t3⟩ := tkS_all ha1 (show a ≤ s.t.1 by omega) ht.2
      have hok : TkP.Ok N room ⟨mnS s.t (tkS s.t a), s.sl⟩ := ⟨by simp only [mnS]; omega, h.ok.ok, h.ok.room, h.ok.len⟩
      have hf := intoK_flows (fun i hi => (hroom i hi).1) N (Nat.le_refl N) ⟨mnS s.t (tkS s.t a), s.sl⟩ (tkS s.t a) hok (by omega) t2
      have f1 := hf.heat
      have f2 := hf.vol
      have f3 := hf.t1
      have hz : (mnS s.t (tkS s.t a)).1 = 0 → (mnS s.t (tkS s.t a)).2 = 0 := fun e => by
        have : tkS s.t a = s.t := by rw [tkS, if_neg]; simp only [mnS] at e; omega
        rw [this]; simp only [mnS]; omega
      have f4 := hf.tz hz
      have m1 : (mnS s.t (tkS s.t a)).1 = s.t.1 - (tkS s.t a).1 := rfl
      have m2 : (mnS s.t (tkS s.t a)).2 = s.t.2 - (tkS s.t a).2 := rfl
      simp only [TkP.heat, TkP.vol] at f1 f2 f3
      obtain ⟨p1, p2, pz, p3, p4, p5, p6, p7, p8, p9, p10, p11, p12, p13⟩ := h
      unfold TkP.heat at p3
      exact ⟨⟨hf.ok, by simp only []; omega, f4, by simp only [TkP.heat]; omega, p4, p5, by simp only []; omega, by simp only []; omega, by simp only []; omega, by simp only []; omega, by simp only []; omega, by simp only []; omega, by simp only []; omega, by simp only []; omega⟩,
        rfl, by simp only [TkP.heat]; omega, by simp only [TkP.vol]; omega⟩
  · exact fine_same h _
theorem warm_fine {N : Nat} {room : Nat → Int} {s : TkP} {R : Rst} {H : Int} (h : POk N room s R H) (p q : Int) : Fine N room s R H (warmM N s R p q) := by
  unfold warmM
  split
  · rename_i ha
    simp only [Bool.and_eq_true, in3_iff] at ha
    split
    · exact fine_same h _
    · rename_i hl
      have hi : p.toNat < N := by omega
      generalize p.toNat = i at hi hl
      have ok := h.ok.ok i hi
      have hs := warmL_sum (h := q) hl
      have e1 : volL (warmL (s.sl i) q) = volL (s.sl i) := by simp only [volL, hs]
      have e2 : heatL (warmL (s.sl i) q) = heatL (s.sl i) + q := by simp only [heatL, hs]
      have hok := h.ok.upd hi (warmL_ok ok ha.2.1) (by rw [e1]; exact h.ok.room i hi) (by rw [warmL_len]; exact h.ok.len i hi) (t := s.t) h.ok.t
      have u1 := heat_upd (s := s) hi (l := warmL (s.sl i) q) (t := s.t)
      have u2 := vol_upd (s := s) hi (l := warmL (s.sl i) q) (t := s.t)
      obtain ⟨p1, p2, pz, p3, p4, p5, p6, p7, p8, p9, p10, p11, p12, p13⟩ := h
      have p3' := p3
      unfold TkP.heat at p3
      refine ⟨⟨hok, p2, pz, ?_, p4, p5, by simp only []; omega, by simp only []; omega, by simp only []; omega, by simp only []; omega, by simp only []; omega, by simp only []; omega, by simp only []; omega, by simp only []; omega⟩, rfl, ?_, ?_⟩
      · simp only [u1, e2]; omega
      · simp only [u1, e2]; unfold TkP.heat; omega
      · simp only [u2, e1]; unfold TkP.vol; omega
  · exact fine_same h _
theorem leak_fine {N : Nat} {room : Nat → Int} {s : TkP} {R : Rst} {H : Int} (h : POk N room s R H) (hroom : ∀ i, i < N → 0 ≤ room i ∧ room i ≤ 1048576) (p a : Int) : Fine N room s R H (leakM N s R p a) := by
  unfold leakM
  split
  · rename_i ha
    simp only [Bool.and_eq_true, in3_iff] at ha
    have hi : p.toNat < N := by omega
    generalize p.toNat = i at hi
    have ok := h.ok.ok i hi
    have hv := ok.vol
    have hr := hroom i hi
    have hri := h.ok.room i hi
    have f1 := flowM_ok _ (min a (volL (s.sl i))) ok
    have f2 := flowM_vol _ _ ok (show 0 ≤ min a (volL (s.sl i)) by omega) (by omega)
    have f3 := flowM_vol2 ok (show 0 ≤ min a (volL (s.sl i)) by omega) (by omega)
    have f4 := flowM_heat (s.sl i) (min a (volL (s.sl i)))
    have f5 := (flowM_len (s.sl i) (min a (volL (s.sl i)))).1
    have f6 := f1.1.heat
    have f7 := f1.2.heat
    have f8 := f1.2.vol
    have hl := h.ok.len i hi
    change volL (leakO (s.sl i) a).1 = _ at f2
    change volL (leakO (s.sl i) a).2 = _ at f3
    change heatL (leakO (s.sl i) a).1 + heatL (leakO (s.sl i) a).2 = _ at f4
    change (leakO (s.sl i) a).2.length ≤ _ at f5
    change 0 ≤ heatL (leakO (s.sl i) a).1 at f6
    change 0 ≤ heatL (leakO (s.sl i) a).2 at f7
    have hok := h.ok.upd hi (l := (leakO (s.sl i) a).2) f1.2 (by omega) (by omega) (t := s.t) h.ok.t
    have u1 := heat_upd (s := s) hi (l := (leakO (s.sl i) a).2) (t := s.t)
    have u2 := vol_upd (s := s) hi (l := (leakO (s.sl i) a).2) (t := s.t)
    obtain ⟨p1, p2, pz, p3, p4, p5, p6, p7, p8, p9, p10, p11, p12, p13⟩ := h
    unfold TkP.heat at p3
    refine ⟨⟨hok, p2, pz, ?_, ?_, p5, by simp only []; omega, ?_, by simp only []; omega, by simp only []; omega, by simp only []; omega, by simp only []; omega, by simp only []; omega, by simp only []; omega⟩, rfl, ?_, ?_⟩
    · simp only [u1]; unfold heatL at *; omega
    · simp only []; unfold heatL at *; omega
    · simp only []; unfold volL at *; omega
    · simp only [u1]; unfold TkP.heat heatL at *; omega
    · simp only [u2]; unfold TkP.vol volL at *; omega
  · exact fine_same h _
theorem fill_fine {N : Nat} {room : Nat → Int} {s : TkP} {R : Rst} {H : Int} (h : POk N room s R H) (a q : Int) : Fine N room s R H (fillM s R a q) := by
  unfold fillM
  split
  · rename_i ha
    simp only [Bool.and_eq_true, in3_iff] at ha
    split
    · rename_i hc
      have ht := h.ok.t
      obtain ⟨p1, p2, pz, p3, p4, p5, p6, p7, p8, p9, p10, p11, p12, p13⟩ := h
      unfold TkP.heat at p3
      refine ⟨⟨⟨by simp only []; omega, p1.ok, p1.room, p1.len⟩, by simp only []; omega, by simp only []; omega, by simp only [TkP.heat]; omega, p4, p5, by simp only []; omega, by simp only []; omega, by simp only []; omega, by simp only []; omega, by simp only []; omega, by simp only []; omega, by simp only []; omega, by simp only []; omega⟩, rfl, by simp only [TkP.heat]; omega, by simp only [TkP.vol]; omega⟩
    · exact fine_same h _
  · exact fine_same h _
theorem chill_fine {N : Nat} {room : Nat → Int} {s : TkP} {R : Rst} {H : Int} (h : POk N room s R H) (q : Int) : Fine N room s R H (chillM s R q) := by
  unfold chillM
  split
  · rename_i ha
    simp only [in3_iff] at ha
    split
    · rename_i hc
      have ht := h.ok.t
      obtain ⟨p1, p2, pz, p3, p4, p5, p6, p7, p8, p9, p10, p11, p12, p13⟩ := h
      unfold TkP.heat at p3
      refine ⟨⟨⟨by simp only []; omega, p1.ok, p1.room, p1.len⟩, by simp only []; omega, by simp only []; omega, by simp only [TkP.heat]; omega, p4, by simp only []; omega, by simp only []; omega, by simp only []; omega, by simp only []; omega, by simp only []; omega, by simp only []; omega, by simp only []; omega, by simp only []; omega, by simp only []; omega⟩, rfl, by simp only [TkP.heat]; omega, by simp only [TkP.vol]⟩
    · exact fine_same h _
  · exact fine_same h _
theorem use_fine {N : Nat} {room : Nat → Int} {s : TkP} {R : Rst} {H : Int} (h : POk N room s R H) (q : Int) : Fine N room s R H (useM s R q) := by
  unfold useM
  split
  · rename_i ha
    simp only [in3_iff] at ha
    obtain ⟨p1, p2, pz, p3, p4, p5, p6, p7, p8, p9, p10, p11, p12, p13⟩ := h
    refine ⟨⟨p1, p2, pz, by simp only []; omega, p4, by simp only []; omega, by simp only []; omega, by simp only []; omega, by simp only []; omega, by simp only []; omega, by simp only []; omega, by simp only []; omega, by simp only []; omega, by simp only []; omega⟩, rfl, by simp only []; omega, by simp only []⟩
  · exact fine_same h _
theorem do_fine {N : Nat} {room : Nat → Int} (hroom : ∀ i, i < N → 0 ≤ room i ∧ room i ≤ 1048576) {s : TkP} {R : Rst} {H : Int} (h : POk N room s R H) (k p a q : Int) : Fine N room s R H (doM N room s R k p a q) := by
  unfold doM
  split
  · exact pump_fine hroom h a
  split
  · exact warm_fine h p q
  split
  · exact leak_fine h hroom p a
  split
  · exact fill_fine h a q
  split
  · exact chill_fine h q
  split
  · exact use_fine h q
  · exact fine_same h _
end Go.Eng
end

/- brine: a slug flows into a pipe. -/
section
namespace Go.Eng
open Go Go.RowKit Go.Proofs
set_option maxRecDepth 100000
set_option maxHeartbeats 4000000
attribute [local irreducible] OwnT DefS
theorem into_calls {N : Nat} {room : Nat → Int} (hN : N ≤ 1000) (hroom : ∀ i, i < N → 0 ≤ room i ∧ room i ≤ 1048576) (R : Rst) : ∀ (k : Nat), k ≤ N → ∀ (s : TkP) (ver : Nat → Nat) (a b : Int), s.Ok N room → 1 ≤ a → a ≤ 1048576 → 0 ≤ b → s.heat N + b ≤ 4398046511104 → s.t.1 + a ≤ 1099511627776 →
    CallsS Try.prog 71 [.ptr 0 0, .int .i64 ((N - k : Nat) : Int), .agg [.int .i64 a, .int .i64 b]] (heapS N room s ver R) (fun o h' => ∃ s' ver' R', (o = .ret (.tup []) ∧ s' = intoK N room k s (a, b) ∧ R' = R) ∧ h' = heapS N room s' ver' R') := by
  intro k
  induction k with
  | zero =>
    intro hk s ver a b hok h1 h2 h3 h4 h5
    have hth := hok.heat_nonneg
    have ht := hok.t
    unfold TkP.heat at h4
    refine calls_trim2 (K := fun o h' => o = .ret (.tup []) ∧ ∃ B, h' = ⟨plB (plS s.t (a, b)) R :: B, fam [pipes N room ver] N (fun i => slV (ver i) (s.sl i)) []⟩) ?_ ?_
    · refine calls_of_run (C := cx [71] [] [(41, plusBase), (42, sumBase)] [(71, 2, p71_2), (71, 4, p71_4), (71, 5, p71_5), (71, 8, p71_8), (72, 3, p72_3), (72, 4, p72_4), (78, 1, p78_1), (78, 4, p78_4)] none) (cx_ok trivial ⟨plus_base, sum_base, trivial⟩) rfl (g := 71) (fn := Try.f71) (fn_71) rfl 1000 ?_
      simp only [heapS, plB, pipes, getV_fL, Nat.sub_zero, Try.f71, plus_eq, sum_eq, p71_2, p71_4, p71_5, p71_8, p72_3, p72_4, p78_1, p78_4, go_sem, ↓reduceIte, Nat.reduceAdd, Nat.reduceSub, Nat.reduceMul, Nat.reduceEqDiff, Nat.reduceLT, Nat.reduceLeDiff, Int.reduceToNat, Int.reduceLE, Int.reduceLT, Int.reduceEq, Int.reduceNeg, reduceCtorEq]
      exact ⟨⟨by kernel_rfl, by kernel_rfl⟩, ⟨⟨by omega, by omega⟩, ⟨by omega, by omega⟩, ⟨by omega, by omega⟩, by omega, by omega⟩, _, rfl⟩
    · rintro o h' ⟨rfl, B, rfl⟩
      exact ⟨.tup [], .tup [], .ret (.tup []), heapS N room (intoK N room 0 s (a, b)) ver R, .inl ⟨rfl, rfl⟩, ⟨_, ver, R, ⟨rfl, rfl, rfl⟩, rfl⟩, heap_sub (s := intoK N room 0 s (a, b)) (ver := ver) (R := R) (x := .tup []) rfl (fun _ _ => trivial) (fun i _ => subVk_rfl _), heap_lB, heap_lV⟩
  | succ k ih =>
    intro hk s ver a b hok h1 h2 h3 h4 h5
    have hi : N - (k + 1) < N := by omega
    generalize hi' : N - (k + 1) = i at hi
    have hth := hok.heat_nonneg
    have hro := hroom i hi
    have hoi := hok.ok i hi
    have hle := smN_le (f := fun i => heatL (s.sl i)) N i hi (fun j hj => (hok.ok j hj).heat)
    have hri := hok.room i hi
    have hli := hok.len i hi
    have ht := hok.t
    have h4' := h4
    unfold TkP.heat at h4
    have hoa : OkL (s.sl i ++ [(a, b)]) := hoi.app (fun y hy => by simp only [List.mem_singleton] at hy; subst hy; exact ⟨h1, h3⟩)
    have hva : volL (s.sl i ++ [(a, b)]) = volL (s.sl i) + a := by rw [volL_app]; simp [volL_cons, volL_nil]
    have hha : heatL (s.sl i ++ [(a, b)]) = heatL (s.sl i) + b := by rw [heatL_app]; simp [heatL_cons, heatL_nil]
    have hbig : ∀ y ∈ s.sl i ++ [(a, b)], y.1 ≤ 1048576 := fun y hy => by
      rcases List.mem_append.1 hy with hy | hy
      · have := (hoi.mem_le hy).1; omega
      · simp only [List.mem_singleton] at hy; subst hy; exact h2
    have hvn := hoi.vol
    have hhn := hoi.heat
    have hOB : OkB (s.sl i ++ [(a, b)]) := fun y hy => by
      have h7 := hoa y hy
      have h8 := hbig y hy
      have h9 := (hoa.mem_le hy).2
      omega
    refine calls_trim2 (K := fun o h' => o = .ret (.tup []) ∧ ∃ ver' B V, h' = ⟨plB (intoK N room (k + 1) s (a, b)).t R :: B, fam [pipes N room ver'] N (fun i => slV (ver' i) ((intoK N room (k + 1) s (a, b)).sl i)) V⟩) ?_ ?_
    · refine calls_of_run (C := cx [71] [] [(41, plusBase), (42, sumBase)] [(71, 2, p71_2), (71, 4, p71_4), (71, 5, p71_5), (71, 8, p71_8), (72, 3, p72_3), (72, 4, p72_4), (78, 1, p78_1), (78, 4, p78_4)] none) (cx_ok trivial ⟨plus_base, sum_base, trivial⟩) rfl (g := 71) (fn := Try.f71) (fn_71) rfl 1000 ?_
      have hne : decide ((i : Int) = (N : Int)) = false := decide_eq_false (by omega)
      have hiN : (i : Int) < (N : Int) := by omega
      have hi0 : (0 : Int) ≤ (i : Int) := by omega
      simp only [heapS, plB, pipes, getV_fL, setV_fL, getV_fI, setV_fI, getV_fP, setV_fP, snocV_fam', fam_lenV, updV_same, updV_upd, upN_same, catS1_eq, catS1_intR, catS1_slL, catS1_frz, piF_0, piF_1, piF_upd, slV, hne, hi, hiN, hi0, Int.toNat_natCast, Try.f74, Try.f77, Try.f79, Try.f78, Try.f72, Try.f71, plus_eq, sum_eq, p71_2, p71_4, p71_5, p71_8, p72_3, p72_4, p78_1, p78_4, go_sem, ↓reduceIte, Nat.reduceAdd, Nat.reduceSub, Nat.reduceMul, Nat.reduceEqDiff, Nat.reduceLT, Nat.reduceLeDiff, Int.reduceToNat, Int.reduceLE, Int.reduceLT, Int.reduceEq, Int.reduceNeg, reduceCtorEq]
      refine ⟨⟨by kernel_rfl, by kernel_rfl⟩, ⟨by omega, by omega⟩, ⟨by kernel_rfl, by kernel_rfl⟩, ⟨by omega, hOB⟩, ?_⟩
      have hn0 : max 0 (IntKind.i64.wrap ((smL (s.sl i ++ [(a, b)])).fst - room i)) = max 0 (volL (s.sl i ++ [(a, b)]) - room i) := by
        rw [wrap_id]
        · rfl
        · change -9223372036854775808 ≤ volL (s.sl i ++ [(a, b)]) - room i; omega
        · change volL (s.sl i ++ [(a, b)]) - room i ≤ 9223372036854775807; omega
      rw [hn0]
      refine loop_ofH { p : FlI // p.Ok (s.sl i ++ [(a, b)]) (max 0 (volL (s.sl i ++ [(a, b)]) - room i)) } (fun _ => [(2, .ptr 2 0), (1, .ptr 3 0), (0, .yield 5)])
        (fun h p => ⟨[plB s.t R, .live 23 [.int .i64 a, .int .i64 b], .live 104 [.vptr 0 0 2 i 0], .live 3 [.int .i64 p.1.n], .live 48 [.vec (fP 1 N 2) p.1.va], getB h.blks 5], fam [pipes N room (upN ver i p.1.v)] N (updV (fun i => slV (ver i) (s.sl i)) i (slV p.1.v p.1.l)) [.dead, .dead, slV p.1.va p.1.acc, .dead]⟩)
        (fun p => p.1.n.toNat) (fun _ => ⟨rfl, by simp only [fam_lenV, go_sem, ↓reduceIte, Nat.reduceAdd, Nat.reduceSub, Nat.reduceMul, Nat.reduceEqDiff, Nat.reduceLT, Nat.reduceLeDiff, Int.reduceToNat, Int.reduceLE, Int.reduceLT, Int.reduceEq, Int.reduceNeg, reduceCtorEq]⟩) ⟨⟨max 0 (volL (s.sl i ++ [(a, b)]) - room i), s.sl i ++ [(a, b)], [], ver i + 1, 0⟩, by simp, by simp only []; omega, by simp only []; omega, hoa, .inl (by simp; omega), by simp only []; omega, hbig⟩ ?_ ?_
      · apply sub_of <;> simp only [plB, pipes, getV_fL, setV_fL, getV_fI, setV_fI, getV_fP, setV_fP, snocV_fam', fam_lenV, updV_same, updV_upd, upN_same, catS1_eq, catS1_intR, catS1_slL, catS1_frz, piF_0, piF_1, piF_upd, slV, go_sem, ↓reduceIte, Nat.reduceAdd, Nat.reduceSub, Nat.reduceMul, Nat.reduceEqDiff, Nat.reduceLT, Nat.reduceLeDiff, Int.reduceToNat, Int.reduceLE, Int.reduceLT, Int.reduceEq, Int.reduceNeg, reduceCtorEq]
        · refine subV_famI rfl (by simp [subV, subVk]) (updV_sub (by rw [updV_same]; exact catS1_sub) (fun j hj hne => by rw [updV_ne hne]; exact subVk_rfl _)) (by simp [subV, subVk])
        · refine ⟨by simp only [fP]; omega, by simp only [fP]; omega, by simp only [fP]; omega, bd_setL (by simp [bdAs, BdL, Bd, fP])⟩
        · refine bdV_famI (pipes_bd (by simp only [fP]; omega)) (fun j hj => ?_) (by simp [bdV, Bd])
          simp only [updV]
          split <;> exact slV_bd
      rintro ⟨⟨n, l, acc, v, va⟩, ho⟩
      simp only at ho ⊢
      by_cases hn : n ≤ 0
      · have hd : decide (0 < n) = false := decide_eq_false (by omega)
        have hn0' : n = 0 := by have := ho.n0; simp only at this; omega
        have hO : outP (s.sl i) (a, b) (room i) = (acc, l) := by
          have := ho.eq
          rw [flowM_neg l (by omega)] at this
          simpa [outP] using this
        obtain ⟨o1, o2, o3, o4, o5, o6, o7, o8⟩ := outP_facts (x := (a, b)) hoi ⟨h1, h3⟩ hri hro.1 hli
        rw [hO] at o1 o2 o3 o4 o5 o6 o7 o8
        simp only at o1 o2 o3 o4 o5 o6 o7 o8
        have hint : intoK N room (k + 1) s (a, b) = acc.foldl (intoK N room k) ⟨s.t, upL s.sl i (mrg l)⟩ := by
          simp only [intoK, hi', hO]
        rw [hint]
        have hok0 : TkP.Ok N room ⟨s.t, upL s.sl i (mrg l)⟩ := by
          refine ⟨ht, fun j hj => ?_, fun j hj => ?_, fun j hj => ?_⟩ <;> simp only [upL] <;> split
          · exact o2
          · exact hok.ok j hj
          · rename_i e; subst e; simp only [volL, mrg_sum]; exact o4
          · exact hok.room j hj
          · exact o7
          · exact hok.len j hj
        have hh0 : TkP.heat N ⟨s.t, upL s.sl i (mrg l)⟩ + heatL acc = TkP.heat N s + b := by
          have u1 : smN (fun j => heatL (upL s.sl i (mrg l) j)) N = smN (fun j => heatL (s.sl j)) N + (heatL (mrg l) - heatL (s.sl i)) := by
            rw [smN_upd (f := fun j => heatL (s.sl j)) (g := fun j => heatL (upL s.sl i (mrg l) j)) (i := i) N hi (fun j hj hne => by simp [upL, hne])]
            simp [upL]
          have hm : heatL (mrg l) = heatL l := by simp only [heatL, mrg_sum]
          simp only [plS, Prod.ext_iff] at o5
          simp only [TkP.heat, u1, hm]
          unfold heatL at *
          omega
        generalize hs0 : (⟨s.t, upL s.sl i (mrg l)⟩ : TkP) = s0 at hok0 hh0
        have hfl : ∀ j, Flows N room s0 ((acc.take j).foldl (intoK N room k) s0) (smL (acc.take j)) := fun j =>
          foldl_flows (fun s x => intoK_flows (fun i hi => (hroom i hi).1) k (by omega) s x) _ _ hok0 (fun y hy => o1 y (List.mem_of_mem_take hy))
        have hst : s0.t = s.t := by rw [← hs0]
        have hsl : s0.sl = upL s.sl i (mrg l) := by rw [← hs0]
        have haccn : acc.length ≤ 1000 := by have := ho.len; simp only at this; omega
        by_cases hl16 : l.length = 17
        · have hL : (l.length : Int) = 17 := by omega
          have c17 : ((17 : Nat) : Int) = 17 := rfl
          have w15 : IntKind.i64.wrap 15 = 15 := by decide
          have w16 : IntKind.i64.wrap 16 = 16 := by decide
          simp only [hd, hl16, hL, w15, w16, c17, Int.reduceSub, plB, pipes, upN_upN, getV_fL, setV_fL, getV_fI, setV_fI, getV_fP, setV_fP, snocV_fam', fam_lenV, updV_same, updV_upd, upN_same, catS1_eq, catS1_intR, catS1_slL, catS1_frz, piF_0, piF_1, piF_upd, slV, hi, hiN, hi0, Int.toNat_natCast, Try.f74, Try.f77, Try.f79, Try.f78, Try.f72, Try.f71, plus_eq, sum_eq, p71_2, p71_4, p71_5, p71_8, p72_3, p72_4, p78_1, p78_4, go_sem, ↓reduceIte, Nat.reduceAdd, Nat.reduceSub, Nat.reduceMul, Nat.reduceEqDiff, Nat.reduceLT, Nat.reduceLeDiff, Int.reduceToNat, Int.reduceLE, Int.reduceLT, Int.reduceEq, Int.reduceNeg, reduceCtorEq]
          have q15 := o8.upto (show 15 < l.length by omega)
          have q16 := o8.upto (show 16 < l.length by omega)
          have hlh : heatL l ≤ 4398046511104 := by
            have := o1.heat
            simp only [plS, Prod.ext_iff] at o5
            unfold heatL at *
            omega
          refine ⟨⟨by kernel_rfl, by kernel_rfl⟩, ⟨⟨by omega, by omega⟩, ⟨by omega, by omega⟩, ⟨by omega, by omega⟩, by omega, by omega⟩, ?_⟩
          refine loop_ofH { p : Nat × (Nat → Nat) // p.1 ≤ acc.length } (fun p => [(105, .int .i64 (p.1.1 : Int)), (104, .int .i64 (acc.length : Int)), (103, .vec (fP 1 N 2) va), (1, .int .i64 (i : Int)), (0, .ptr 0 0)])
            (fun h p => ⟨[plB ((acc.take p.1.1).foldl (intoK N room k) s0).t R, .dead, .dead, .dead, .dead, .dead], fam [pipes N room p.1.2] N (fun i => slV (p.1.2 i) (((acc.take p.1.1).foldl (intoK N room k) s0).sl i)) [.dead, .dead, slV va acc, .dead]⟩)
            (fun p => acc.length - p.1.1) (fun _ => ⟨rfl, by simp only [fam_lenV, go_sem, ↓reduceIte, Nat.reduceAdd, Nat.reduceSub, Nat.reduceMul, Nat.reduceEqDiff, Nat.reduceLT, Nat.reduceLeDiff, Int.reduceToNat, Int.reduceLE, Int.reduceLT, Int.reduceEq, Int.reduceNeg, reduceCtorEq]⟩) ⟨(0, upN ver i (v + 1)), by simp⟩ ?_ ?_
          · apply sub_of <;> simp only [List.take_zero, List.foldl_nil, hst, hsl, plB, pipes, getV_fL, setV_fL, getV_fI, setV_fI, getV_fP, setV_fP, snocV_fam', fam_lenV, updV_same, updV_upd, upN_same, catS1_eq, catS1_intR, catS1_slL, catS1_frz, piF_0, piF_1, piF_upd, slV, go_sem, ↓reduceIte, Nat.reduceAdd, Nat.reduceSub, Nat.reduceMul, Nat.reduceEqDiff, Nat.reduceLT, Nat.reduceLeDiff, Int.reduceToNat, Int.reduceLE, Int.reduceLT, Int.reduceEq, Int.reduceNeg, reduceCtorEq]
            · rfl
            · exact subV_famI rfl (by simp [subV, subVk]) (updV_sub (by simp only [upN_same, upL, if_true]; exact mrg_sub hl16) (fun j hj hne => by simp only [upN, upL, if_neg hne]; exact subVk_rfl _)) ⟨trivial, trivial, subVk_rfl _, trivial, trivial⟩
            · simp only [fP]; omega
            · simp only [fP]; omega
            · exact fam_bdL (pipes_bd (by simp only [fP]; omega)) (fun j _ => ⟨upN ver i (v + 1) j, upL s.sl i (mrg l) j, rfl⟩) (by simp [bdV, Bd])
          rintro ⟨⟨j, vr⟩, hj⟩
          simp only at hj ⊢
          by_cases hja : j < acc.length
          · have hd3 : decide ((j : Int) < (acc.length : Int)) = true := decide_eq_true (by omega)
            have hjA : (j : Int) < (acc.length : Int) := by omega
            have hj0 : (0 : Int) ≤ (j : Int) := by omega
            have wi : IntKind.i64.wrap ((i : Int) + 1) = ((N - k : Nat) : Int) := by rw [wrap_id (by omega) (by omega)]; omega
            have wj : IntKind.i64.wrap ((j : Int) + 1) = ((j + 1 : Nat) : Int) := by rw [wrap_id (by omega) (by omega)]; omega
            have F := hfl j
            simp only [hd3, hja, hjA, hj0, wi, wj, plB, pipes, getV_fL, setV_fL, getV_fI, setV_fI, getV_fP, setV_fP, snocV_fam', fam_lenV, updV_same, updV_upd, upN_same, catS1_eq, catS1_intR, catS1_slL, catS1_frz, piF_0, piF_1, piF_upd, slV, hi, hiN, hi0, Int.toNat_natCast, Try.f71, plus_eq, sum_eq, p71_2, p71_4, p71_5, p71_8, p72_3, p72_4, p78_1, p78_4, go_sem, ↓reduceIte, Nat.reduceAdd, Nat.reduceSub, Nat.reduceMul, Nat.reduceEqDiff, Nat.reduceLT, Nat.reduceLeDiff, Int.reduceToNat, Int.reduceLE, Int.reduceLT, Int.reduceEq, Int.reduceNeg, reduceCtorEq]
            have hup := o1.upto hja
            have F1 := F.heat
            have F2 := F.t1
            have F3 : (acc.take (j + 1)).foldl (intoK N room k) s0 = intoK N room k ((acc.take j).foldl (intoK N room k) s0) (slI acc j 0, slI acc j 1) := by rw [take_slI hja, List.foldl_append]; rfl
            unfold callS
            refine calls_mono ?_ (calls_plant (K := fun o s' R' => o = .ret (.tup []) ∧ s' = intoK N room k ((acc.take j).foldl (intoK N room k) s0) (slI acc j 0, slI acc j 1) ∧ R' = R) (by simp [BdL, Bd]) (by rintro o s' R' ⟨rfl, rfl, rfl⟩; exact ⟨_, .inl rfl, by simp [Bd, BdL], rfl⟩)
              (ih (by omega) ((acc.take j).foldl (intoK N room k) s0) vr (slI acc j 0) (slI acc j 1) F.ok hup.1.1 (by omega) hup.1.2 (by omega) (by rw [hst] at F2; omega)) [.dead, .dead, .dead, .dead, .dead, .live 23 [.int .i64 (slI acc j 0), .int .i64 (slI acc j 1)]] [.dead, .dead, slV va acc, .dead] rfl)
            rintro o h' ⟨s', ver', R', ⟨rfl, rfl, rfl⟩, rfl⟩
            rw [← F3]
            simp only [wj, plB, pipes, getV_fL, setV_fL, getV_fI, setV_fI, getV_fP, setV_fP, snocV_fam', fam_lenV, updV_same, updV_upd, upN_same, catS1_eq, catS1_intR, catS1_slL, catS1_frz, piF_0, piF_1, piF_upd, slV, hi, hiN, hi0, Int.toNat_natCast, Try.f71, plus_eq, sum_eq, p71_2, p71_4, p71_5, p71_8, p72_3, p72_4, p78_1, p78_4, go_sem, ↓reduceIte, Nat.reduceAdd, Nat.reduceSub, Nat.reduceMul, Nat.reduceEqDiff, Nat.reduceLT, Nat.reduceLeDiff, Int.reduceToNat, Int.reduceLE, Int.reduceLT, Int.reduceEq, Int.reduceNeg, reduceCtorEq]
            refine ⟨⟨(j + 1, ver'), by simp only []; omega⟩, by simp only []; omega, ?_⟩
            apply sub_of <;> simp only [plB, pipes, getV_fL, setV_fL, getV_fI, setV_fI, getV_fP, setV_fP, snocV_fam', fam_lenV, updV_same, updV_upd, upN_same, catS1_eq, catS1_intR, catS1_slL, catS1_frz, piF_0, piF_1, piF_upd, slV, go_sem, ↓reduceIte, Nat.reduceAdd, Nat.reduceSub, Nat.reduceMul, Nat.reduceEqDiff, Nat.reduceLT, Nat.reduceLeDiff, Int.reduceToNat, Int.reduceLE, Int.reduceLT, Int.reduceEq, Int.reduceNeg, reduceCtorEq]
            · exact subV_famI rfl (by simp [subV, subVk]) (fun _ _ => subVk_rfl _) ⟨trivial, trivial, subVk_rfl _, trivial, trivial⟩
            · simp only [fP]; omega
            · simp only [fP]; omega
            · exact fam_bdL (pipes_bd (by simp only [fP]; omega)) (fun i _ => ⟨ver' i, ((acc.take (j + 1)).foldl (intoK N room k) s0).sl i, rfl⟩) (by simp [bdV, Bd])
          · have hd3 : decide ((j : Int) < (acc.length : Int)) = false := decide_eq_false (by omega)
            obtain rfl : j = acc.length := by omega
            rw [List.take_length]
            simp only [hd3, plB, pipes, getV_fL, setV_fL, getV_fI, setV_fI, getV_fP, setV_fP, snocV_fam', fam_lenV, updV_same, updV_upd, upN_same, catS1_eq, catS1_intR, catS1_slL, catS1_frz, piF_0, piF_1, piF_upd, slV, hi, hiN, hi0, Int.toNat_natCast, Try.f71, plus_eq, sum_eq, p71_2, p71_4, p71_5, p71_8, p72_3, p72_4, p78_1, p78_4, go_sem, ↓reduceIte, Nat.reduceAdd, Nat.reduceSub, Nat.reduceMul, Nat.reduceEqDiff, Nat.reduceLT, Nat.reduceLeDiff, Int.reduceToNat, Int.reduceLE, Int.reduceLT, Int.reduceEq, Int.reduceNeg, reduceCtorEq]
            exact ⟨_, _, _, rfl⟩
        · have hL : decide (16 < (l.length : Int)) = false := decide_eq_false (by omega)
          simp only [hd, hL, plB, pipes, upN_upN, getV_fL, setV_fL, getV_fI, setV_fI, getV_fP, setV_fP, snocV_fam', fam_lenV, updV_same, updV_upd, upN_same, catS1_eq, catS1_intR, catS1_slL, catS1_frz, piF_0, piF_1, piF_upd, slV, hi, hiN, hi0, Int.toNat_natCast, Try.f74, Try.f77, Try.f79, Try.f78, Try.f72, Try.f71, plus_eq, sum_eq, p71_2, p71_4, p71_5, p71_8, p72_3, p72_4, p78_1, p78_4, go_sem, ↓reduceIte, Nat.reduceAdd, Nat.reduceSub, Nat.reduceMul, Nat.reduceEqDiff, Nat.reduceLT, Nat.reduceLeDiff, Int.reduceToNat, Int.reduceLE, Int.reduceLT, Int.reduceEq, Int.reduceNeg, reduceCtorEq]
          have hmr : mrg l = l := by rw [mrg, if_neg (by omega)]
          rw [hmr] at hsl
          refine loop_ofH { p : Nat × (Nat → Nat) // p.1 ≤ acc.length } (fun p => [(105, .int .i64 (p.1.1 : Int)), (104, .int .i64 (acc.length : Int)), (103, .vec (fP 1 N 2) va), (1, .int .i64 (i : Int)), (0, .ptr 0 0)])
            (fun h p => ⟨[plB ((acc.take p.1.1).foldl (intoK N room k) s0).t R, .dead, .dead, .dead, .dead, .dead], fam [pipes N room p.1.2] N (fun i => slV (p.1.2 i) (((acc.take p.1.1).foldl (intoK N room k) s0).sl i)) [.dead, .dead, slV va acc, .dead]⟩)
            (fun p => acc.length - p.1.1) (fun _ => ⟨rfl, by simp only [fam_lenV, go_sem, ↓reduceIte, Nat.reduceAdd, Nat.reduceSub, Nat.reduceMul, Nat.reduceEqDiff, Nat.reduceLT, Nat.reduceLeDiff, Int.reduceToNat, Int.reduceLE, Int.reduceLT, Int.reduceEq, Int.reduceNeg, reduceCtorEq]⟩) ⟨(0, upN ver i v), by simp⟩ ?_ ?_
          · apply sub_of <;> simp only [List.take_zero, List.foldl_nil, hst, hsl, plB, pipes, getV_fL, setV_fL, getV_fI, setV_fI, getV_fP, setV_fP, snocV_fam', fam_lenV, updV_same, updV_upd, upN_same, catS1_eq, catS1_intR, catS1_slL, catS1_frz, piF_0, piF_1, piF_upd, slV, go_sem, ↓reduceIte, Nat.reduceAdd, Nat.reduceSub, Nat.reduceMul, Nat.reduceEqDiff, Nat.reduceLT, Nat.reduceLeDiff, Int.reduceToNat, Int.reduceLE, Int.reduceLT, Int.reduceEq, Int.reduceNeg, reduceCtorEq]
            · rfl
            · exact subV_famI rfl (by simp [subV, subVk]) (updV_sub (by simp only [upN_same, upL, if_true]; exact subVk_rfl _) (fun j hj hne => by simp only [upN, upL, if_neg hne]; exact subVk_rfl _)) ⟨trivial, trivial, subVk_rfl _, trivial, trivial⟩
            · simp only [fP]; omega
            · simp only [fP]; omega
            · exact fam_bdL (pipes_bd (by simp only [fP]; omega)) (fun j _ => ⟨upN ver i v j, upL s.sl i l j, rfl⟩) (by simp [bdV, Bd])
          rintro ⟨⟨j, vr⟩, hj⟩
          simp only at hj ⊢
          by_cases hja : j < acc.length
          · have hd3 : decide ((j : Int) < (acc.length : Int)) = true := decide_eq_true (by omega)
            have hjA : (j : Int) < (acc.length : Int) := by omega
            have hj0 : (0 : Int) ≤ (j : Int) := by omega
            have wi : IntKind.i64.wrap ((i : Int) + 1) = ((N - k : Nat) : Int) := by rw [wrap_id (by omega) (by omega)]; omega
            have wj : IntKind.i64.wrap ((j : Int) + 1) = ((j + 1 : Nat) : Int) := by rw [wrap_id (by omega) (by omega)]; omega
            have F := hfl j
            simp only [hd3, hja, hjA, hj0, wi, wj, plB, pipes, getV_fL, setV_fL, getV_fI, setV_fI, getV_fP, setV_fP, snocV_fam', fam_lenV, updV_same, updV_upd, upN_same, catS1_eq, catS1_intR, catS1_slL, catS1_frz, piF_0, piF_1, piF_upd, slV, hi, hiN, hi0, Int.toNat_natCast, Try.f71, plus_eq, sum_eq, p71_2, p71_4, p71_5, p71_8, p72_3, p72_4, p78_1, p78_4, go_sem, ↓reduceIte, Nat.reduceAdd, Nat.reduceSub, Nat.reduceMul, Nat.reduceEqDiff, Nat.reduceLT, Nat.reduceLeDiff, Int.reduceToNat, Int.reduceLE, Int.reduceLT, Int.reduceEq, Int.reduceNeg, reduceCtorEq]
            have hup := o1.upto hja
            have F1 := F.heat
            have F2 := F.t1
            have F3 : (acc.take (j + 1)).foldl (intoK N room k) s0 = intoK N room k ((acc.take j).foldl (intoK N room k) s0) (slI acc j 0, slI acc j 1) := by rw [take_slI hja, List.foldl_append]; rfl
            unfold callS
            refine calls_mono ?_ (calls_plant (K := fun o s' R' => o = .ret (.tup []) ∧ s' = intoK N room k ((acc.take j).foldl (intoK N room k) s0) (slI acc j 0, slI acc j 1) ∧ R' = R) (by simp [BdL, Bd]) (by rintro o s' R' ⟨rfl, rfl, rfl⟩; exact ⟨_, .inl rfl, by simp [Bd, BdL], rfl⟩)
              (ih (by omega) ((acc.take j).foldl (intoK N room k) s0) vr (slI acc j 0) (slI acc j 1) F.ok hup.1.1 (by omega) hup.1.2 (by omega) (by rw [hst] at F2; omega)) [.dead, .dead, .dead, .dead, .dead, .live 23 [.int .i64 (slI acc j 0), .int .i64 (slI acc j 1)]] [.dead, .dead, slV va acc, .dead] rfl)
            rintro o h' ⟨s', ver', R', ⟨rfl, rfl, rfl⟩, rfl⟩
            rw [← F3]
            simp only [wj, plB, pipes, getV_fL, setV_fL, getV_fI, setV_fI, getV_fP, setV_fP, snocV_fam', fam_lenV, updV_same, updV_upd, upN_same, catS1_eq, catS1_intR, catS1_slL, catS1_frz, piF_0, piF_1, piF_upd, slV, hi, hiN, hi0, Int.toNat_natCast, Try.f71, plus_eq, sum_eq, p71_2, p71_4, p71_5, p71_8, p72_3, p72_4, p78_1, p78_4, go_sem, ↓reduceIte, Nat.reduceAdd, Nat.reduceSub, Nat.reduceMul, Nat.reduceEqDiff, Nat.reduceLT, Nat.reduceLeDiff, Int.reduceToNat, Int.reduceLE, Int.reduceLT, Int.reduceEq, Int.reduceNeg, reduceCtorEq]
            refine ⟨⟨(j + 1, ver'), by simp only []; omega⟩, by simp only []; omega, ?_⟩
            apply sub_of <;> simp only [plB, pipes, getV_fL, setV_fL, getV_fI, setV_fI, getV_fP, setV_fP, snocV_fam', fam_lenV, updV_same, updV_upd, upN_same, catS1_eq, catS1_intR, catS1_slL, catS1_frz, piF_0, piF_1, piF_upd, slV, go_sem, ↓reduceIte, Nat.reduceAdd, Nat.reduceSub, Nat.reduceMul, Nat.reduceEqDiff, Nat.reduceLT, Nat.reduceLeDiff, Int.reduceToNat, Int.reduceLE, Int.reduceLT, Int.reduceEq, Int.reduceNeg, reduceCtorEq]
            · exact subV_famI rfl (by simp [subV, subVk]) (fun _ _ => subVk_rfl _) ⟨trivial, trivial, subVk_rfl _, trivial, trivial⟩
            · simp only [fP]; omega
            · simp only [fP]; omega
            · exact fam_bdL (pipes_bd (by simp only [fP]; omega)) (fun i _ => ⟨ver' i, ((acc.take (j + 1)).foldl (intoK N room k) s0).sl i, rfl⟩) (by simp [bdV, Bd])
          · have hd3 : decide ((j : Int) < (acc.length : Int)) = false := decide_eq_false (by omega)
            obtain rfl : j = acc.length := by omega
            rw [List.take_length]
            simp only [hd3, plB, pipes, getV_fL, setV_fL, getV_fI, setV_fI, getV_fP, setV_fP, snocV_fam', fam_lenV, updV_same, updV_upd, upN_same, catS1_eq, catS1_intR, catS1_slL, catS1_frz, piF_0, piF_1, piF_upd, slV, hi, hiN, hi0, Int.toNat_natCast, Try.f71, plus_eq, sum_eq, p71_2, p71_4, p71_5, p71_8, p72_3, p72_4, p78_1, p78_4, go_sem, ↓reduceIte, Nat.reduceAdd, Nat.reduceSub, Nat.reduceMul, Nat.reduceEqDiff, Nat.reduceLT, Nat.reduceLeDiff, Int.reduceToNat, Int.reduceLE, Int.reduceLT, Int.reduceEq, Int.reduceNeg, reduceCtorEq]
            exact ⟨_, _, _, rfl⟩
      · have hd : decide (0 < n) = true := decide_eq_true (by omega)
        cases l with
        | nil => have := ho.n1; simp only [volL_nil] at this; omega
        | cons y l =>
          obtain ⟨yv, yh⟩ := y
          have hy := ho.ok.cons.1
          have hyb := ho.big _ (List.mem_cons_self ..)
          have hyh := ho.heat
          have hlh := ho.ok.cons.2.heat
          rw [heatL_cons] at hyh
          have hlen := ho.len
          simp only [List.length_cons] at hy hyb hyh hlen
          have hnb : n ≤ 20000000 := by
            have q1 := vol_big ho.big
            have q2 := ho.n1
            simp only [List.length_cons] at q1 q2
            omega
          by_cases hyn : yv ≤ n
          · have hm : min n yv = yv := by omega
            have hd2 : decide (yv < yv) = false := decide_eq_false (by omega)
            have w0 : IntKind.i64.wrap 0 = 0 := by decide
            simp only [hd, hm, hd2, w0, Int.sub_self, slI_c0, slI_c1, List.length_cons, plB, pipes, upN_upN, getV_fL, setV_fL, getV_fI, setV_fI, getV_fP, setV_fP, snocV_fam', fam_lenV, updV_same, updV_upd, upN_same, catS1_eq, catS1_intR, catS1_slL, catS1_frz, piF_0, piF_1, piF_upd, slV, hi, hiN, hi0, Int.toNat_natCast, Try.f74, Try.f77, Try.f79, Try.f78, Try.f72, Try.f71, plus_eq, sum_eq, p71_2, p71_4, p71_5, p71_8, p72_3, p72_4, p78_1, p78_4, go_sem, ↓reduceIte, Nat.reduceAdd, Nat.reduceSub, Nat.reduceMul, Nat.reduceEqDiff, Nat.reduceLT, Nat.reduceLeDiff, Int.reduceToNat, Int.reduceLE, Int.reduceLT, Int.reduceEq, Int.reduceNeg, reduceCtorEq]
            (repeat' refine And.intro ?_ ?_)
            all_goals first | omega | (show planOk _ _ = true; kernel_rfl) | (show keepOk _ _ = true; kernel_rfl) | skip
            all_goals
              refine ⟨⟨⟨n - yv, l, acc ++ [(yv, yh)], v + 1, va + 1⟩, ho.pop (by omega) hyn⟩, by simp only []; omega, ?_⟩
              apply sub_of <;> simp only [wrap_id (x := n - yv) (by omega) (by omega), plB, pipes, getV_fL, setV_fL, getV_fI, setV_fI, getV_fP, setV_fP, snocV_fam', fam_lenV, updV_same, updV_upd, upN_same, catS1_eq, catS1_intR, catS1_slL, catS1_frz, piF_0, piF_1, piF_upd, slV, go_sem, ↓reduceIte, Nat.reduceAdd, Nat.reduceSub, Nat.reduceMul, Nat.reduceEqDiff, Nat.reduceLT, Nat.reduceLeDiff, Int.reduceToNat, Int.reduceLE, Int.reduceLT, Int.reduceEq, Int.reduceNeg, reduceCtorEq]
              · exact subV_famI rfl (by simp [subV, subVk]) (updV_sub (by rw [updV_same]; exact pop_sub (by omega)) (fun j hj hne => by rw [updV_ne hne]; exact subVk_rfl _)) ⟨trivial, trivial, catS1_sub, trivial, trivial⟩
              · refine ⟨by simp only [fP]; omega, by simp only [fP]; omega, by simp only [fP]; omega, bd_setL (by simp [bdAs, BdL, Bd, fP])⟩
              · exact fam_bdL (pipes_bd (by simp only [fP]; omega)) (fun j _ => updV_slV j) (by simp [bdV, Bd])
          · have hm : min n yv = n := by omega
            have hd2 : decide (n < yv) = true := decide_eq_true (by omega)
            have w1 : IntKind.i64.wrap (yv - n) = yv - n := wrap_id (by omega) (by omega)
            have hd3 : decide (yv - n = 0) = false := decide_eq_false (by omega)
            simp only [hd, hm, hd2, w1, hd3, slI_c0, slI_c1, List.length_cons, plB, pipes, upN_upN, getV_fL, setV_fL, getV_fI, setV_fI, getV_fP, setV_fP, snocV_fam', fam_lenV, updV_same, updV_upd, upN_same, catS1_eq, catS1_intR, catS1_slL, catS1_frz, piF_0, piF_1, piF_upd, slV, hi, hiN, hi0, Int.toNat_natCast, Try.f74, Try.f77, Try.f79, Try.f78, Try.f72, Try.f71, plus_eq, sum_eq, p71_2, p71_4, p71_5, p71_8, p72_3, p72_4, p78_1, p78_4, go_sem, ↓reduceIte, Nat.reduceAdd, Nat.reduceSub, Nat.reduceMul, Nat.reduceEqDiff, Nat.reduceLT, Nat.reduceLeDiff, Int.reduceToNat, Int.reduceLE, Int.reduceLT, Int.reduceEq, Int.reduceNeg, reduceCtorEq]
            (repeat' refine And.intro ?_ ?_)
            all_goals first | omega | (show planOk _ _ = true; kernel_rfl) | (show keepOk _ _ = true; kernel_rfl) | skip
            all_goals
              have hlt : n < yv := by omega
              have hb := mul_bd (h := yh) (n := n) ⟨by omega, by omega⟩ ⟨by omega, by omega⟩
              have ht := tkS_bd (x := (yv, yh)) (n := n) (by omega) hy.2 hlt
              have hc := ho.cut (v' := v) (va' := va + 1) (by omega) hlt
              rw [tkS_lt hlt] at ht hc
              simp only [mnS] at ht hc
              refine ⟨⟨⟨0, (yv - n, yh - (yh * n).tdiv yv) :: l, acc ++ [(n, (yh * n).tdiv yv)], v, va + 1⟩, hc⟩, by simp only []; omega, ?_⟩
              have w2 : IntKind.i64.wrap (yh * n) = yh * n := wrap_id (by omega) (by omega)
              have w3 : IntKind.i64.wrap ((yh * n).tdiv yv) = (yh * n).tdiv yv := wrap_id (by omega) (by omega)
              have w4 : IntKind.i64.wrap (yh - (yh * n).tdiv yv) = yh - (yh * n).tdiv yv := wrap_id (by omega) (by omega)
              have w5 : IntKind.i64.wrap (n - n) = 0 := by rw [Int.sub_self]; decide
              apply sub_of <;> simp only [w2, w3, w4, w5, plB, pipes, getV_fL, setV_fL, getV_fI, setV_fI, getV_fP, setV_fP, snocV_fam', fam_lenV, updV_same, updV_upd, upN_same, catS1_eq, catS1_intR, catS1_slL, catS1_frz, piF_0, piF_1, piF_upd, slV, go_sem, ↓reduceIte, Nat.reduceAdd, Nat.reduceSub, Nat.reduceMul, Nat.reduceEqDiff, Nat.reduceLT, Nat.reduceLeDiff, Int.reduceToNat, Int.reduceLE, Int.reduceLT, Int.reduceEq, Int.reduceNeg, reduceCtorEq]
              · exact subV_famI rfl (by simp [subV, subVk]) (updV_sub (by rw [updV_same]; exact cut_sub rfl rfl) (fun j hj hne => by rw [updV_ne hne]; exact subVk_rfl _)) ⟨trivial, trivial, catS1_sub, trivial, trivial⟩
              · refine ⟨by simp only [fP]; omega, by simp only [fP]; omega, by simp only [fP]; omega, bd_setL (by simp [bdAs, BdL, Bd, fP])⟩
              · exact fam_bdL (pipes_bd (by simp only [fP]; omega)) (fun j _ => updV_slV (ver := ver) (sl := s.sl) (v := v) (l := (yv - n, yh - (yh * n).tdiv yv) :: l) j) (by simp [bdV, Bd])
    · rintro o h' ⟨rfl, ver', B, V, rfl⟩
      exact ⟨.tup [], .tup [], .ret (.tup []), heapS N room (intoK N room (k + 1) s (a, b)) ver' R, .inl ⟨rfl, rfl⟩, ⟨_, ver', R, ⟨rfl, rfl, rfl⟩, rfl⟩, heap_sub (s := intoK N room (k + 1) s (a, b)) (ver := ver') (R := R) (x := .tup []) rfl (fun _ _ => trivial) (fun i _ => subVk_rfl _), heap_lB, heap_lV⟩
end Go.Eng
end

/- brine: what events do, in memory: use, chill, fill. -/
section
namespace Go.Eng
open Go Go.RowKit Go.Proofs
set_option maxRecDepth 100000
set_option maxHeartbeats 4000000
attribute [local irreducible] OwnT DefS
/-- How an event ends: it did something, or it ended with an error and did nothing. -/
def DoK (r : Stp) (s : TkP) (R : Rst) (o : Out) (s' : TkP) (R' : Rst) : Prop :=
  (r.1 = 0 ∧ o = .ret (.tup []) ∧ s' = r.2.1 ∧ R' = r.2.2) ∨ (r.1 ≠ 0 ∧ o = .pan (.iface 64 (.agg [.int .i64 r.1])) ∧ s' = s ∧ R' = R)
/-- The plant, and more. -/
def Wild (N : Nat) (room : Nat → Int) (K : Out → TkP → Rst → Prop) (o : Out) (h' : HS) : Prop :=
  ∃ s' ver' R' B V f, K o s' R' ∧ (∀ i, i < N → subVk (f i) (slV (ver' i) (s'.sl i))) ∧ h' = ⟨plB s'.t R' :: B, fam [pipes N room ver'] N f V⟩
theorem wild_of {N : Nat} {room : Nat → Int} {K : Out → TkP → Rst → Prop} {o : Out} (s' : TkP) (ver' : Nat → Nat) (R' : Rst) (h : K o s' R') {B : List Blk} {V : List Vc} {f : Nat → Vc} (hf : ∀ i, i < N → subVk (f i) (slV (ver' i) (s'.sl i))) : Wild N room K o ⟨plB s'.t R' :: B, fam [pipes N room ver'] N f V⟩ :=
  ⟨s', ver', R', B, V, f, h, hf, rfl⟩
theorem wild_ok {N : Nat} {room : Nat → Int} {s : TkP} {R : Rst} {s' : TkP} {R' : Rst} {r : Stp} (ver' : Nat → Nat) (hm : r = (0, s', R')) {B : List Blk} {V : List Vc} {f : Nat → Vc} (hf : ∀ i, i < N → subVk (f i) (slV (ver' i) (s'.sl i))) : Wild N room (DoK r s R) (.ret (.tup [])) ⟨plB s'.t R' :: B, fam [pipes N room ver'] N f V⟩ :=
  wild_of s' ver' R' (.inl ⟨by rw [hm], rfl, by rw [hm], by rw [hm]⟩) hf
theorem wild_er {N : Nat} {room : Nat → Int} {s : TkP} {R : Rst} {r : Stp} {e : Int} (he : e ≠ 0) (ver' : Nat → Nat) (hm : r = (e, s, R)) {B : List Blk} {V : List Vc} {f : Nat → Vc} (hf : ∀ i, i < N → subVk (f i) (slV (ver' i) (s.sl i))) : Wild N room (DoK r s R) (.pan (.iface 64 (.agg [.int .i64 e]))) ⟨plB s.t R :: B, fam [pipes N room ver'] N f V⟩ :=
  wild_of s ver' R (.inr ⟨by rw [hm]; exact he, by rw [hm], rfl, rfl⟩) hf
theorem trim_do {g : Nat} {args : List SV} {N : Nat} {room : Nat → Int} {s : TkP} {ver : Nat → Nat} {R : Rst} {r : Stp} (h : CallsS Try.prog g args (heapS N room s ver R) (Wild N room (DoK r s R))) :
    CallsS Try.prog g args (heapS N room s ver R) (fun o h' => ∃ s' ver' R', DoK r s R o s' R' ∧ h' = heapS N room s' ver' R') := by
  refine calls_trim2 h ?_
  rintro o h' ⟨s', ver', R', B, V, f, (⟨k1, rfl, k2, k3⟩ | ⟨k1, rfl, k2, k3⟩), hf, rfl⟩
  · exact ⟨.tup [], .tup [], .ret (.tup []), heapS N room s' ver' R', .inl ⟨rfl, rfl⟩, ⟨_, _, _, .inl ⟨k1, rfl, k2, k3⟩, rfl⟩, heap_sub (s := s') (ver := ver') (R := R') (x := .tup []) rfl (fun _ _ => trivial) hf, heap_lB, heap_lV⟩
  · exact ⟨_, _, .pan (.iface 64 (.agg [.int .i64 r.1])), heapS N room s' ver' R', .inr ⟨rfl, rfl⟩, ⟨_, _, _, .inr ⟨k1, rfl, k2, k3⟩, rfl⟩, heap_sub (s := s') (ver := ver') (R := R') (x := .iface 64 (.agg [.int .i64 r.1])) rfl (fun _ _ => by simp [Bd, BdL]) hf, heap_lB, heap_lV⟩
theorem use_calls {N : Nat} {room : Nat → Int} {s : TkP} {R : Rst} {H : Int} (hok : POk N room s R H) (hH : H ≤ 4398046511104) (ver : Nat → Nat) (k p a q : Int) :
    CallsS Try.prog 59 [.ptr 0 0, .agg [.int .i64 k, .int .i64 p, .int .i64 a, .int .i64 q]] (heapS N room s ver R) (Wild N room (DoK (useM s R q) s R)) := by
  refine calls_of_run (C := cx [71] [] [(36, withinBase), (49, isHeatBase), (69, litresBase), (41, plusBase), (42, sumBase)] [(59, 2, p59_2), (59, 4, p59_4), (59, 5, p59_5)] none) (cx_ok trivial ⟨within_base, isHeat_base, litres_base, plus_base, sum_base, trivial⟩) rfl (g := 59) (fn := Try.f59) (fn_59) rfl 1000 ?_
  obtain ⟨p1, p2, pz, p3, p4, p5, p6, p7, p8, p9, p10, p11, p12, p13⟩ := hok
  simp only [heapS, plB, pipes, getV_fL, setV_fL, getV_fI, setV_fI, getV_fP, setV_fP, snocV_fam', fam_lenV, updV_same, updV_upd, upN_same, catS1_eq, catS1_intR, catS1_slL, catS1_frz, piF_0, piF_1, piF_upd, slV, Try.f59, Try.f35, within_eq, isHeat_eq, litres_eq, plus_eq, sum_eq, p59_2, p59_4, p59_5, go_sem, ↓reduceIte, Nat.reduceAdd, Nat.reduceSub, Nat.reduceMul, Nat.reduceEqDiff, Nat.reduceLT, Nat.reduceLeDiff, Int.reduceToNat, Int.reduceLE, Int.reduceLT, Int.reduceEq, Int.reduceNeg, reduceCtorEq]
  refine ⟨fun e => ?_, fun e => ⟨⟨by kernel_rfl, by kernel_rfl⟩, ⟨by kernel_rfl, by kernel_rfl⟩, ⟨by kernel_rfl, by kernel_rfl⟩, ?_⟩⟩
  · have hm : useM s R q = (1, s, R) := by simp only [Bool.not_eq_true'] at e; simp [useM, e]
    exact wild_er (e := 1) (by decide) ver hm (fun _ _ => subVk_rfl _)
  · simp only [Bool.not_eq_false'] at e
    have hm : useM s R q = (0, s, { R with he := R.he - min q R.he, us := R.us + q, bo := R.bo + (q - min q R.he) }) := by simp [useM, e]
    obtain ⟨q1, q2⟩ := in3_iff.1 e
    rw [wrap_id (x := R.he - min q R.he) (by omega) (by omega), wrap_id (x := R.us + q) (by omega) (by omega), wrap_id (x := q - min q R.he) (by omega) (by omega), wrap_id (x := R.bo + (q - min q R.he)) (by omega) (by omega)]
    exact wild_ok ver hm (fun _ _ => subVk_rfl _)
theorem chill_calls {N : Nat} {room : Nat → Int} {s : TkP} {R : Rst} {H : Int} (hok : POk N room s R H) (hH : H ≤ 4398046511104) (ver : Nat → Nat) (k p a q : Int) :
    CallsS Try.prog 58 [.ptr 0 0, .agg [.int .i64 k, .int .i64 p, .int .i64 a, .int .i64 q]] (heapS N room s ver R) (Wild N room (DoK (chillM s R q) s R)) := by
  refine calls_of_run (C := cx [71] [] [(36, withinBase), (49, isHeatBase), (69, litresBase), (41, plusBase), (42, sumBase)] [(58, 2, p58_2), (58, 3, p58_3), (58, 4, p58_4), (58, 5, p58_5), (58, 7, p58_7)] none) (cx_ok trivial ⟨within_base, isHeat_base, litres_base, plus_base, sum_base, trivial⟩) rfl (g := 58) (fn := Try.f58) (fn_58) rfl 1000 ?_
  have ht := hok.ok.t
  have hth := hok.ok.heat_nonneg
  obtain ⟨p1, p2, pz, p3, p4, p5, p6, p7, p8, p9, p10, p11, p12, p13⟩ := hok
  unfold TkP.heat at p3
  simp only [heapS, plB, pipes, getV_fL, setV_fL, getV_fI, setV_fI, getV_fP, setV_fP, snocV_fam', fam_lenV, updV_same, updV_upd, upN_same, catS1_eq, catS1_intR, catS1_slL, catS1_frz, piF_0, piF_1, piF_upd, slV, Try.f58, Try.f35, within_eq, isHeat_eq, litres_eq, plus_eq, sum_eq, p58_2, p58_3, p58_4, p58_5, p58_7, go_sem, ↓reduceIte, Nat.reduceAdd, Nat.reduceSub, Nat.reduceMul, Nat.reduceEqDiff, Nat.reduceLT, Nat.reduceLeDiff, Int.reduceToNat, Int.reduceLE, Int.reduceLT, Int.reduceEq, Int.reduceNeg, reduceCtorEq]
  refine ⟨fun e => ?_, fun e => ⟨⟨by kernel_rfl, by kernel_rfl⟩, fun e2 => ?_, fun e2 => ⟨⟨by kernel_rfl, by kernel_rfl⟩, ⟨by kernel_rfl, by kernel_rfl⟩, ⟨by kernel_rfl, by kernel_rfl⟩, ⟨by kernel_rfl, by kernel_rfl⟩, ?_⟩⟩⟩
  · have hm : chillM s R q = (1, s, R) := by simp only [Bool.not_eq_true'] at e; simp [chillM, e]
    exact wild_er (e := 1) (by decide) ver hm (fun _ _ => subVk_rfl _)
  · have hm : chillM s R q = (10, s, R) := by
      simp only [Bool.not_eq_false', Bool.not_eq_true', decide_eq_false_iff_not] at e e2
      simp only [chillM, e, if_true, if_neg e2]
    exact wild_er (e := 10) (by decide) ver hm (fun _ _ => subVk_rfl _)
  · simp only [Bool.not_eq_false', decide_eq_true_eq] at e e2
    have hm : chillM s R q = (0, ⟨(s.t.1, s.t.2 - q), s.sl⟩, { R with he := min (R.he + q) R.hr, ch := R.ch + q, ai := R.ai + (R.he + q - min (R.he + q) R.hr) }) := by simp only [chillM, e, if_true, if_pos e2]
    obtain ⟨q1, q2⟩ := in3_iff.1 e
    rw [wrap_id (x := s.t.2 - q) (by omega) (by omega), wrap_id (x := R.he + q) (by omega) (by omega), wrap_id (x := R.ch + q) (by omega) (by omega), wrap_id (x := R.he + q - min (R.he + q) R.hr) (by omega) (by omega), wrap_id (x := R.ai + (R.he + q - min (R.he + q) R.hr)) (by omega) (by omega)]
    exact wild_ok ver hm (fun _ _ => subVk_rfl _)
theorem fill_calls {N : Nat} {room : Nat → Int} {s : TkP} {R : Rst} {H : Int} (hok : POk N room s R H) (hH : H ≤ 4398046511104) (ver : Nat → Nat) (k p a q : Int) :
    CallsS Try.prog 57 [.ptr 0 0, .agg [.int .i64 k, .int .i64 p, .int .i64 a, .int .i64 q]] (heapS N room s ver R) (Wild N room (DoK (fillM s R a q) s R)) := by
  refine calls_of_run (C := cx [71] [] [(36, withinBase), (49, isHeatBase), (69, litresBase), (41, plusBase), (42, sumBase)] [(57, 2, p57_2), (57, 4, p57_4)] none) (cx_ok trivial ⟨within_base, isHeat_base, litres_base, plus_base, sum_base, trivial⟩) rfl (g := 57) (fn := Try.f57) (fn_57) rfl 1000 ?_
  have ht := hok.ok.t
  have hth := hok.ok.heat_nonneg
  obtain ⟨p1, p2, pz, p3, p4, p5, p6, p7, p8, p9, p10, p11, p12, p13⟩ := hok
  unfold TkP.heat at p3
  simp only [heapS, plB, pipes, getV_fL, setV_fL, getV_fI, setV_fI, getV_fP, setV_fP, snocV_fam', fam_lenV, updV_same, updV_upd, upN_same, catS1_eq, catS1_intR, catS1_slL, catS1_frz, piF_0, piF_1, piF_upd, slV, Try.f57, Try.f35, within_eq, isHeat_eq, litres_eq, plus_eq, sum_eq, p57_2, p57_4, go_sem, ↓reduceIte, Nat.reduceAdd, Nat.reduceSub, Nat.reduceMul, Nat.reduceEqDiff, Nat.reduceLT, Nat.reduceLeDiff, Int.reduceToNat, Int.reduceLE, Int.reduceLT, Int.reduceEq, Int.reduceNeg, reduceCtorEq]
  refine ⟨fun e1 => ⟨fun e => ?_, fun e => ⟨⟨by kernel_rfl, by kernel_rfl⟩, fun e2 => ?_, fun e2 => ⟨⟨by kernel_rfl, by kernel_rfl⟩, ?_⟩⟩⟩, fun e1 => ?_⟩
  · have hm : fillM s R a q = (1, s, R) := by simp only [Bool.not_eq_true'] at e; simp [fillM, e]
    exact wild_er (e := 1) (by decide) ver hm (fun _ _ => subVk_rfl _)
  · obtain ⟨q3, q4⟩ := in3_iff.1 e1
    rw [wrap_id (x := s.t.1 + a) (by omega) (by omega)] at e2
    have hm : fillM s R a q = (12, s, R) := by
      simp only [Bool.not_eq_false', Bool.not_eq_true', decide_eq_false_iff_not] at e e2
      simp only [fillM, e1, e, Bool.and_self, if_true, if_neg e2]
    exact wild_er (e := 12) (by decide) ver hm (fun _ _ => subVk_rfl _)
  · obtain ⟨q3, q4⟩ := in3_iff.1 e1
    rw [wrap_id (x := s.t.1 + a) (by omega) (by omega)] at e2
    simp only [Bool.not_eq_false', decide_eq_true_eq] at e e2
    have hm : fillM s R a q = (0, ⟨(s.t.1 + a, s.t.2 + q), s.sl⟩, { R with fv := R.fv + a, fh := R.fh + q }) := by simp only [fillM, e1, e, Bool.and_self, if_true, if_pos e2]
    obtain ⟨q1, q2⟩ := in3_iff.1 e
    refine ⟨⟨⟨by omega, by omega⟩, ⟨by omega, by omega⟩, ⟨by omega, by omega⟩, by omega, by omega⟩, ⟨⟨by omega, by omega⟩, ⟨by omega, by omega⟩, ⟨by omega, by omega⟩, by omega, by omega⟩, ?_⟩
    exact wild_ok ver hm (fun _ _ => subVk_rfl _)
  · have hm : fillM s R a q = (1, s, R) := by simp [fillM, e1]
    exact wild_er (e := 1) (by decide) ver hm (fun _ _ => subVk_rfl _)
theorem pump_calls {N : Nat} {room : Nat → Int} (hN : N ≤ 1000) (hroom : ∀ i, i < N → 0 ≤ room i ∧ room i ≤ 1048576) {s : TkP} {R : Rst} {H : Int} (hok : POk N room s R H) (hH : H ≤ 4398046511104) (ver : Nat → Nat) (k p a q : Int) :
    CallsS Try.prog 54 [.ptr 0 0, .agg [.int .i64 k, .int .i64 p, .int .i64 a, .int .i64 q]] (heapS N room s ver R) (Wild N room (DoK (pumpM N room s R a) s R)) := by
  refine calls_of_run (C := cx [71] [] [(36, withinBase), (49, isHeatBase), (69, litresBase), (41, plusBase), (42, sumBase)] [(54, 2, p54_2), (54, 3, p54_3), (72, 3, p72_3), (72, 4, p72_4)] none) (cx_ok trivial ⟨within_base, isHeat_base, litres_base, plus_base, sum_base, trivial⟩) rfl (g := 54) (fn := Try.f54) (fn_54) rfl 1000 ?_
  have ht := hok.ok.t
  have hth := hok.ok.heat_nonneg
  obtain ⟨p1, p2, pz, p3, p4, p5, p6, p7, p8, p9, p10, p11, p12, p13⟩ := hok
  unfold TkP.heat at p3
  simp only [heapS, plB, pipes, getV_fL, setV_fL, getV_fI, setV_fI, getV_fP, setV_fP, snocV_fam', fam_lenV, updV_same, updV_upd, upN_same, catS1_eq, catS1_intR, catS1_slL, catS1_frz, piF_0, piF_1, piF_upd, slV, Try.f54, Try.f72, Try.f35, within_eq, isHeat_eq, litres_eq, plus_eq, sum_eq, p54_2, p54_3, p72_3, p72_4, go_sem, ↓reduceIte, Nat.reduceAdd, Nat.reduceSub, Nat.reduceMul, Nat.reduceEqDiff, Nat.reduceLT, Nat.reduceLeDiff, Int.reduceToNat, Int.reduceLE, Int.reduceLT, Int.reduceEq, Int.reduceNeg, reduceCtorEq]
  refine ⟨fun e => ?_, fun e => ⟨⟨by kernel_rfl, by kernel_rfl⟩, fun e2 => ?_, fun e2 => ⟨⟨by kernel_rfl, by kernel_rfl⟩, ?_⟩⟩⟩
  · have hm : pumpM N room s R a = (1, s, R) := by simp only [Bool.not_eq_true'] at e; simp [pumpM, e]
    exact wild_er (e := 1) (by decide) ver hm (fun _ _ => subVk_rfl _)
  · have hm : pumpM N room s R a = (10, s, R) := by
      simp only [Bool.not_eq_false', Bool.not_eq_true', decide_eq_false_iff_not] at e e2
      simp only [pumpM, e, if_true, if_pos (show s.t.1 < a by omega)]
    exact wild_er (e := 10) (by decide) ver hm (fun _ _ => subVk_rfl _)
  simp only [Bool.not_eq_false', decide_eq_true_eq] at e e2
  have hm : pumpM N room s R a = (0, intoK N room N ⟨mnS s.t (tkS s.t a), s.sl⟩ (tkS s.t a), R) := by simp only [pumpM, e, if_true, if_neg (show ¬ s.t.1 < a by omega)]
  obtain ⟨q1, q2⟩ := in3_iff.1 e
  obtain ⟨t1, t2, t3⟩ := tkS_all q1 e2 ht.2
  have key := fun (t o : Sl) (ho : tkS s.t a = o) (hte : t = mnS s.t o) => into_calls hN hroom R N (Nat.le_refl N) ⟨t, s.sl⟩ ver o.1 o.2
    (by subst ho hte; exact ⟨by simp only [mnS]; omega, p1.ok, p1.room, p1.len⟩) (by subst ho; omega) (by subst ho; omega) (by subst ho; omega) (by subst ho hte; simp only [TkP.heat, mnS]; omega) (by subst ho hte; simp only [mnS]; omega)
  simp only [Nat.sub_self] at key
  refine ⟨fun c => ⟨⟨by kernel_rfl, by kernel_rfl⟩, ?_, ⟨by kernel_rfl, by kernel_rfl⟩, ?_⟩, fun c => ⟨⟨by kernel_rfl, by kernel_rfl⟩, ?_⟩⟩
  · simp only [decide_eq_true_eq] at c; omega
  · simp only [decide_eq_true_eq] at c
    have hb := mul_bd (h := s.t.2) (n := a) ⟨ht.2, by omega⟩ ⟨by omega, by omega⟩
    have ho : tkS s.t a = (a, (s.t.2 * a).tdiv s.t.1) := tkS_lt c
    rw [ho] at t2 t3
    simp only at t2 t3
    rw [wrap_id (x := s.t.2 * a) (by omega) (by omega), wrap_id (x := (s.t.2 * a).tdiv s.t.1) (by omega) (by omega), wrap_id (x := s.t.1 - a) (by omega) (by omega), wrap_id (x := s.t.2 - (s.t.2 * a).tdiv s.t.1) (by omega) (by omega)]
    refine calls_mono ?_ (calls_plant (K := fun o s' R' => o = .ret (.tup []) ∧ s' = intoK N room N ⟨mnS s.t (tkS s.t a), s.sl⟩ (tkS s.t a) ∧ R' = R) (by simp [BdL, Bd]) (by rintro o s' R' ⟨rfl, rfl, rfl⟩; exact ⟨_, .inl rfl, by simp [Bd, BdL], rfl⟩)
      (s := ⟨(s.t.1 - a, s.t.2 - (s.t.2 * a).tdiv s.t.1), s.sl⟩) (ver := ver) (R := R) (by rw [ho]; exact key _ _ ho rfl) [.live 39 [.int .i64 k, .int .i64 p, .int .i64 a, .int .i64 q], .live 23 [.int .i64 a, .int .i64 ((s.t.2 * a).tdiv s.t.1)], .live 23 [.int .i64 a, .int .i64 ((s.t.2 * a).tdiv s.t.1)]] [] rfl)
    rintro o h' ⟨s', ver', R', ⟨rfl, rfl, rfl⟩, rfl⟩
    simp only [Try.f54, go_sem, ↓reduceIte, Nat.reduceAdd, Nat.reduceSub, Nat.reduceMul, Nat.reduceEqDiff, Nat.reduceLT, Nat.reduceLeDiff, Int.reduceToNat, Int.reduceLE, Int.reduceLT, Int.reduceEq, Int.reduceNeg, reduceCtorEq]
    exact wild_ok ver' hm (fun _ _ => subVk_rfl _)
  · simp only [decide_eq_false_iff_not] at c
    have ho : tkS s.t a = s.t := by rw [tkS, if_neg c]
    have w0 : IntKind.i64.wrap 0 = 0 := by decide
    rw [Int.sub_self, Int.sub_self, w0]
    refine calls_mono ?_ (calls_plant (K := fun o s' R' => o = .ret (.tup []) ∧ s' = intoK N room N ⟨mnS s.t (tkS s.t a), s.sl⟩ (tkS s.t a) ∧ R' = R) (by simp [BdL, Bd]) (by rintro o s' R' ⟨rfl, rfl, rfl⟩; exact ⟨_, .inl rfl, by simp [Bd, BdL], rfl⟩)
      (s := ⟨(0, 0), s.sl⟩) (ver := ver) (R := R) (by rw [ho]; have := key (mnS s.t s.t) s.t ho rfl; simp only [mnS, Int.sub_self] at this ⊢; exact this) [.live 39 [.int .i64 k, .int .i64 p, .int .i64 a, .int .i64 q], .live 23 [.int .i64 s.t.1, .int .i64 s.t.2], .live 23 [.int .i64 s.t.1, .int .i64 s.t.2]] [] rfl)
    rintro o h' ⟨s', ver', R', ⟨rfl, rfl, rfl⟩, rfl⟩
    simp only [Try.f54, go_sem, ↓reduceIte, Nat.reduceAdd, Nat.reduceSub, Nat.reduceMul, Nat.reduceEqDiff, Nat.reduceLT, Nat.reduceLeDiff, Int.reduceToNat, Int.reduceLE, Int.reduceLT, Int.reduceEq, Int.reduceNeg, reduceCtorEq]
    exact wild_ok ver' hm (fun _ _ => subVk_rfl _)
end Go.Eng
end
