/- Lemmas of the abstract condition ahead of code (a part of the library that the claim's proof stands on); they hold with no condition but those that each names. -/
import Derived.Test.YtpgedoljndppdaaGreatAIEval
import Derived.Test.YtpgedoljndppdaaGreatProg
import Derived.Test.YtpgedoljndppdaaGreatChecked
import Derived.KernelRfl
import Derived.Test.YtpgedoljndppdaaGreatSzJoin
import Derived.Test.YtpgedoljndppdaaGreatSzForm2
import Derived.Test.YtpgedoljndppdaaGreatAISepTop
import Derived.Test.YtpgedoljndppdaaGreatAITop2
import Derived.Test.YtpgedoljndppdaaGreatRows
import Derived.JoinedCond
import Derived.WalkKit
import Derived.ProofKit
import Derived.OpenShut
import Derived.SizedLaws
section
/- The hints of this program's functions: which temporaries a join or a loop keeps, and an order of the operations of a region that draws; data, with no condition. -/
namespace Go.AI
def hintsLP1 : List (Nat × Hint) := [
  (3, .sH .zH (.sH .zH (.sH .zH (.sH .zH (.sH .zH (.sH .zH (.sH .zH (.sH (.sH .zH (.bH (.lH [1, 5, 7, 8, 10, 12] .zH))) .zH)))))))),
  (5, .sH .zH (.sH .zH (.sH (.sH .zH (.bH (.lH [0, 3, 4] (.sH .zH (.sH (.bH (.dH [0, 0, 0, 6, 14, 30, 62, 127, 0, 0, 768, 1792, 3840, 7936, 16383, 32767] [0, 1, 2, 3, 4, 5, 6, 7, 8, 9, 10, 11, 12, 13, 14, 15])) .zH))))) .zH))),
  (10, .sH .zH (.sH .zH (.sH (.sH .zH (.bH (.sH .zH (.sH (.sH .zH (.sH .zH (.sH .zH (.sH .zH (.sH (.dH [0, 1, 3, 7, 3, 3, 35, 3, 131, 511, 1023, 2047, 4095] [0, 1, 2, 4, 5, 6, 7, 8, 3, 9, 10, 11, 12]) .zH))))) (.sH .zH (.sH (.sH (.dH [0, 0, 2, 7, 0, 0, 32, 127, 255, 511] [0, 1, 2, 4, 5, 6, 3, 7, 8, 9]) .zH) (.sH .zH (.sH .zH (.sH .zH (.sH (.sH .zH (.sH .zH (.sH (.sH .zH (.bH (.lH [1, 5, 15, 16, 17, 18] .zH))) .zH))) (.sH .zH (.sH (.sH (.dH [0, 0, 0, 4, 15, 31, 0, 0, 0, 256, 1023, 2047, 4095] [0, 1, 2, 3, 6, 7, 8, 9, 4, 5, 10, 11, 12]) .zH) (.sH .zH (.sH .zH (.sH .zH (.sH .zH (.sH .zH (.sH (.sH (.dH [0, 0, 0, 4, 0, 16, 63, 127, 0, 0, 0, 1024, 0, 4096, 16383, 32767, 65535] [0, 1, 2, 3, 4, 5, 8, 9, 10, 11, 12, 13, 6, 7, 14, 15, 16]) .zH) .zH)))))))))))))))))) .zH))),
  (11, .sH .zH (.sH .zH (.sH .zH (.sH (.sH .zH (.bH (.lH [3, 12] .zH))) .zH)))),
  (12, .sH .zH (.sH .zH (.sH (.dH [0, 1, 0, 4, 12, 28, 60, 127, 255] [0, 1, 2, 3, 4, 5, 6, 7, 8]) .zH))),
  (13, .sH .zH (.sH .zH (.sH .zH (.sH .zH (.sH .zH (.sH .zH (.sH .zH (.sH (.dH [0, 1, 3, 7, 0, 0, 32, 96, 224, 511] [0, 1, 2, 3, 4, 5, 6, 7, 8, 9]) .zH)))))))),
  (14, .sH .zH (.sH .zH (.sH (.bH (.sH .zH (.sH .zH (.sH .zH (.sH .zH (.sH (.dH [0, 1, 3, 7, 15, 31, 63, 127, 255, 511, 1023, 2047, 4095, 2047, 10239, 26623, 59391, 2047, 133119, 395263, 919551, 2047, 2099199, 8259583, 124927, 16902143, 67108863, 134217727, 2047, 268437503, 805308415, 1879050239, 4294967295, 8589934591, 17179869183] [0, 1, 2, 3, 4, 5, 6, 7, 8, 9, 10, 11, 13, 14, 15, 16, 17, 18, 19, 20, 21, 22, 23, 24, 25, 28, 29, 30, 31, 12, 26, 27, 32, 33, 34]) .zH)))))) (.sH (.sH .zH (.bH (.lH [2, 7, 60, 61, 62] (.sH .zH (.sH .zH (.sH (.bH (.sH .zH (.sH (.dH [0, 1, 3, 7, 0, 16, 48, 112, 0, 15, 527, 2047] [0, 1, 2, 3, 4, 5, 6, 7, 8, 9, 10, 11]) (.dH [0, 0, 2, 6, 14, 30, 0, 64, 192, 448, 960, 2046, 4095, 8191, 16383] [0, 1, 2, 3, 4, 5, 6, 7, 8, 9, 10, 11, 12, 13, 14])))) .zH)))))) .zH)))),
  (17, .sH .zH (.sH .zH (.sH .zH (.sH (.sH .zH (.bH (.lH [0, 1, 5, 6] (.sH .zH (.sH (.bH (.sH .zH (.sH (.sH (.dH [0, 0, 3, 7, 0, 16, 48, 112, 0, 496, 1008, 2032, 4095, 8191, 16383, 32767, 65535, 131071, 262143, 262143, 786431, 1835007, 3932159, 262143, 16515071, 33292287, 66846719, 134217727, 268435455, 536870911] [0, 1, 2, 3, 4, 5, 6, 7, 8, 9, 10, 11, 12, 13, 14, 15, 16, 17, 18, 19, 20, 21, 22, 23, 24, 25, 26, 27, 28, 29]) .zH) .zH))) .zH))))) (.sH .zH (.sH (.sH .zH (.bH (.lH [0, 1, 9, 10] .zH))) .zH)))))),
  (18, .sH .zH (.sH .zH (.sH .zH (.sH .zH (.sH (.sH .zH (.bH (.lH [0, 4, 6, 8] .zH))) .zH))))),
  (19, .sH .zH (.sH (.sH .zH (.bH (.lH [0, 1, 5] .zH))) .zH)),
  (20, .sH .zH (.sH .zH (.sH (.sH .zH (.bH (.lH [0, 3, 4] .zH))) .zH))),
  (22, .sH .zH (.sH .zH (.sH .zH (.sH .zH (.sH (.sH .zH (.sH .zH (.sH (.sH (.dH [0, 1, 3, 7, 0, 16, 48, 112, 0, 256, 768, 1792, 15, 4351, 16383, 32767] [0, 1, 2, 3, 4, 5, 6, 7, 8, 9, 10, 11, 12, 13, 14, 15]) .zH) .zH))) (.sH (.dH [0, 1, 3, 7, 0, 16, 48, 112, 240, 496, 1008, 0, 4080, 8191, 16383, 32767] [0, 1, 2, 3, 4, 5, 6, 7, 8, 9, 10, 11, 12, 13, 14, 15]) (.sH (.dH [0, 1, 3, 7, 0, 16, 48, 112, 15, 511, 1023, 2047] [0, 1, 2, 3, 4, 5, 6, 7, 8, 9, 10, 11]) .zH))))))),
  (26, .sH .zH (.sH .zH (.sH .zH (.sH (.dH [0, 1, 3, 7, 0, 16, 48, 112, 240, 511, 1023, 2047] [0, 1, 2, 3, 4, 5, 6, 7, 8, 9, 10, 11]) .zH)))),
  (27, .sH .zH (.sH .zH (.sH .zH (.sH (.sH .zH (.bH (.lH [0, 2, 10, 41, 42, 43] .zH))) .zH)))),
  (28, .sH .zH (.sH .zH (.sH (.sH .zH (.bH (.lH [0, 1, 5] (.sH .zH (.sH (.bH (.sH (.dH [0, 0, 3, 7, 0, 0, 48, 112, 255] [0, 1, 2, 3, 4, 5, 6, 7, 8]) .zH)) .zH))))) .zH))),
  (31, .sH .zH (.bH (.lH [0, 2] .zH))),
  (32, .sH .zH (.sH .zH (.sH .zH (.sH .zH (.sH .zH (.sH .zH (.sH .zH (.sH .zH (.sH .zH (.sH .zH (.sH (.d2 6 7 [0, 1, 3, 7, 0, 0, 176, 0, 0, 496, 1023, 2047, 4095] [0, 1, 2, 3, 4, 5, 8, 7, 6, 9, 10, 11, 12] [0, 1, 3, 7, 0, 0, 48, 112, 0, 496, 1023, 2047, 4095] [0, 1, 2, 3, 4, 5, 8, 6, 7, 9, 10, 11, 12]) .zH))))))))))),
  (33, .sH .zH (.sH .zH (.sH .zH (.sH .zH (.sH (.dH [0, 0, 0, 4, 12, 28, 0, 124, 254, 0, 512, 1536, 3584, 0, 8192, 32256, 65534, 131071, 262143, 524287] [0, 2, 3, 4, 5, 6, 7, 9, 10, 11, 12, 13, 14, 15, 1, 8, 16, 17, 18, 19]) .zH))))),
  (36, .sH .zH (.sH .zH (.sH .zH (.sH .zH (.sH .zH (.sH .zH (.sH (.sH .zH (.sH (.sH .zH (.bH (.lH [0, 2, 7, 8, 9] (.sH .zH (.jH [0, 2, 7, 8, 9] (.bH (.sH .zH (.sH (.sH (.dH [0, 1, 0, 4, 0, 0, 48, 112, 255, 511] [0, 1, 2, 3, 4, 5, 6, 7, 8, 9]) .zH) .zH))) .zH))))) (.sH .zH (.sH .zH (.sH .zH (.sH .zH (.sH (.sH .zH (.bH (.lH [0, 2, 7, 8, 10, 11, 12, 13] (.sH .zH (.sH (.bH (.sH .zH (.sH (.sH .zH (.bH (.lH [0, 2, 7, 8, 10, 11, 12, 13, 14, 15] (.sH .zH (.sH (.bH (.sH .zH (.dH [0, 0, 0, 4, 14, 0, 62, 0, 0, 384, 896, 2047, 4095] [0, 1, 2, 3, 4, 5, 6, 7, 8, 9, 10, 11, 12]))) .zH))))) .zH))) .zH))))) (.sH (.sH (.dH [0, 1, 0, 4, 12, 28, 0, 124, 252, 508, 1020, 2047, 0, 4096, 16383, 0, 32768, 98304, 229376, 524287] [0, 2, 3, 4, 5, 6, 7, 8, 9, 10, 12, 13, 15, 16, 17, 18, 1, 11, 14, 19]) .zH) .zH)))))))) (.sH .zH (.sH (.dH [0, 1, 3, 7, 0, 0, 63, 127] [0, 1, 2, 3, 4, 5, 6, 7]) .zH))))))))),
  (37, .sH .zH (.sH .zH (.sH (.sH (.dH [0, 1, 3, 7, 15, 31, 63, 7, 135, 391, 903, 1927, 4095, 8191] [0, 1, 2, 3, 4, 5, 6, 7, 8, 9, 10, 11, 12, 13]) .zH) (.sH .zH (.sH .zH (.sH (.dH [0, 1, 3, 7, 0, 16, 48, 112, 240, 15, 527, 2047, 4095, 8191, 16383] [0, 1, 2, 3, 4, 5, 6, 7, 8, 9, 10, 11, 12, 13, 14]) .zH)))))),
  (39, .sH .zH (.sH .zH (.sH .zH (.jH [10] (.bH (.lH [0, 1, 2, 10] .zH)) .zH)))),
  (40, .sH .zH (.sH .zH (.sH .zH (.sH .zH (.sH .zH (.sH (.bH (.lH [0, 1, 2, 8] .zH)) .zH)))))),
  (42, .sH .zH (.sH .zH (.sH .zH (.sH .zH (.sH (.dH [0, 0, 0, 4, 12, 28, 0, 124, 254, 0, 512, 1536, 3584, 0, 8192, 32256, 65534, 131071, 262143, 524287] [0, 2, 3, 4, 5, 6, 7, 9, 10, 11, 12, 13, 14, 15, 1, 8, 16, 17, 18, 19]) (.sH (.dH [0, 1, 0, 4, 0, 16, 3, 79, 255, 511] [0, 1, 2, 3, 4, 5, 6, 7, 8, 9]) .zH)))))),
  (47, .sH .zH (.sH .zH (.sH .zH (.sH (.sH .zH (.bH (.lH [2, 63, 64, 65] .zH))) .zH)))),
  (48, .sH .zH (.sH .zH (.sH (.dH [0, 1, 3, 7, 0, 16, 48, 112, 0, 511] [0, 1, 2, 3, 4, 5, 6, 7, 8, 9]) .zH))),
  (49, .sH .zH (.sH .zH (.sH .zH (.sH (.sH .zH (.bH (.lH [3, 17] .zH))) .zH)))),
  (50, .sH .zH (.sH .zH (.sH .zH (.sH (.dH [0, 1, 3, 7, 0, 31, 63, 127, 0, 0, 512, 1536, 3584, 0, 15872, 32256, 65280, 130816, 131071, 524287, 1048575] [0, 1, 2, 3, 4, 5, 6, 7, 8, 9, 10, 11, 12, 13, 14, 15, 16, 17, 18, 19, 20]) .zH)))),
  (51, .sH .zH (.sH .zH (.sH (.sH .zH (.bH (.lH [0, 1, 5] (.sH .zH (.sH (.bH (.sH (.dH [0, 0, 3, 7, 0, 0, 48, 112, 255] [0, 1, 2, 3, 4, 5, 6, 7, 8]) .zH)) .zH))))) .zH))),
  (52, .sH .zH (.sH .zH (.sH .zH (.sH (.sH .zH (.bH (.lH [3, 17] .zH))) .zH)))),
  (53, .sH .zH (.sH .zH (.sH .zH (.sH (.sH .zH (.bH (.lH [0, 1, 5, 6] (.sH .zH (.jH [0, 1, 5, 6] .zH .zH))))) .zH)))),
  (57, .sH .zH (.sH .zH (.sH (.sH .zH (.bH (.lH [0, 1, 6, 7, 8] (.sH .zH (.jH [0, 1, 6, 7, 8] .zH .zH))))) .zH))),
  (58, .sH .zH (.sH .zH (.sH (.sH .zH (.bH (.lH [0, 1, 4, 5, 6] .zH))) .zH))),
  (59, .sH .zH (.sH .zH (.sH (.dH [0, 1, 3, 7, 0, 0, 32, 112, 255, 511, 1023, 2047] [0, 1, 2, 3, 4, 5, 6, 7, 8, 9, 10, 11]) (.sH .zH (.sH .zH (.sH .zH (.sH (.sH .zH (.bH (.lH [5, 6, 7, 8] .zH))) .zH))))))),
  (60, .sH .zH (.sH .zH (.sH .zH (.sH (.dH [0, 0, 2, 6, 14, 0, 32, 126, 255, 511, 1023] [0, 1, 2, 3, 4, 5, 6, 7, 8, 9, 10]) .zH)))),
  (61, .sH .zH (.sH .zH (.sH (.sH .zH (.bH (.lH [0, 1, 5, 6] (.sH .zH (.jH [0, 1, 5, 6] .zH .zH))))) .zH))),
  (62, .sH .zH (.sH (.sH .zH (.bH (.lH [0, 1, 5] .zH))) .zH)),
  (63, .sH .zH (.sH .zH (.sH .zH (.sH .zH (.sH (.sH .zH (.bH (.lH [0, 1, 5, 6, 7] .zH))) (.sH (.sH .zH (.bH (.lH [0, 1, 5, 6, 8] .zH))) .zH)))))),
  (67, .sH .zH (.sH (.sH .zH (.bH (.lH [0, 1, 7, 8] .zH))) .zH)),
  (69, .sH .zH (.sH .zH (.sH .zH (.sH (.sH .zH (.bH (.lH [0, 1, 2, 8, 9] .zH))) .zH)))),
  (72, .sH .zH (.sH .zH (.bH (.lH [0, 1, 2, 3, 8, 9] (.bH (.sH .zH (.sH .zH (.sH .zH (.sH .zH (.sH .zH (.sH .zH (.sH .zH (.sH (.sH (.dH [0, 1, 3, 7, 7, 23, 63, 127, 7, 7, 775, 1799, 4095, 8191, 16383] [0, 1, 2, 3, 4, 5, 6, 7, 8, 9, 10, 11, 12, 13, 14]) .zH) .zH)))))))))))))]
def hintsLP2 : List (Nat × Hint) := [
  (74, .sH .zH (.sH .zH (.bH (.lH [0, 1, 2, 3, 8, 9] (.bH (.sH .zH (.sH .zH (.sH .zH (.sH .zH (.sH .zH (.sH .zH (.sH .zH (.sH (.sH (.dH [0, 1, 3, 7, 7, 23, 63, 127, 7, 7, 775, 1799, 4095, 8191, 16383] [0, 1, 2, 3, 4, 5, 6, 7, 8, 9, 10, 11, 12, 13, 14]) .zH) .zH))))))))))))),
  (75, .sH .zH (.bH (.lH [0, 1, 2, 6] (.sH .zH (.sH (.bH (.sH .zH (.bH (.lH [0, 1, 2, 6, 7] (.sH (.sH (.dH [0, 0, 3, 7, 15, 15, 63, 127, 15, 15, 527, 1807, 3855, 8191, 16383] [0, 1, 2, 3, 4, 5, 6, 7, 8, 9, 10, 11, 12, 13, 14]) .zH) (.sH (.bH (.dH [0, 0, 0, 0, 8, 0, 0, 64, 224, 480, 0, 0, 3072, 7168, 16355, 32739, 65535, 131071] [0, 1, 2, 3, 4, 5, 6, 7, 8, 9, 10, 11, 12, 13, 14, 15, 16, 17])) .zH)))))) .zH))))),
  (76, .sH .zH (.sH .zH (.sH .zH (.sH (.sH .zH (.bH (.lH [0, 6, 7, 8, 9] .zH))) (.sH .zH (.bH (.lH [0, 6, 7, 10] (.sH .zH (.sH (.bH (.sH (.dH [0, 0, 0, 0, 0, 24, 0, 0, 0, 384, 960, 1984, 0, 0, 12288, 28672, 65475, 131011, 262143, 524287] [0, 1, 2, 3, 4, 5, 6, 7, 8, 9, 10, 11, 12, 13, 14, 15, 16, 17, 18, 19]) .zH)) .zH))))))))),
  (77, .sH .zH (.sH .zH (.sH (.sH .zH (.sH .zH (.sH .zH (.bH (.lH [0, 1, 6, 7, 8, 9] (.sH .zH (.sH (.bH (.sH .zH (.sH .zH (.dH [0, 0, 0, 0, 0, 24, 0, 0, 0, 384, 960, 1984, 0, 0, 12288, 28672, 65475, 131011, 262143, 524287] [0, 1, 2, 3, 4, 5, 6, 7, 8, 9, 10, 11, 12, 13, 14, 15, 16, 17, 18, 19])))) .zH))))))) .zH))),
  (79, .sH .zH (.sH .zH (.bH (.lH [0, 6, 7] (.sH .zH (.bH (.sH (.dH [0, 0, 0, 0, 0, 0, 48, 112, 0, 0, 768, 1792, 4083, 8179, 16383, 32767] [0, 1, 2, 3, 4, 5, 6, 7, 8, 9, 10, 11, 12, 13, 14, 15]) .zH))))))),
  (80, .sH .zH (.sH .zH (.sH (.sH .zH (.bH (.lH [0, 1, 2, 7, 8] (.sH .zH (.jH [0, 1, 2, 7, 8] (.bH (.sH (.bH (.lH [0, 1, 2, 7, 8] (.sH (.sH (.dH [0, 0, 3, 7, 15, 15, 63, 127, 15, 15, 527, 1807, 3855, 8191, 16383, 32767] [0, 1, 2, 3, 4, 5, 6, 7, 8, 9, 10, 11, 12, 13, 14, 15]) .zH) .zH))) (.sH .zH (.sH .zH (.sH (.dH [0, 0, 0, 0, 8, 0, 0, 64, 224, 480, 0, 0, 3072, 7168, 16355, 32739, 65535, 131071] [0, 1, 2, 3, 4, 5, 6, 7, 8, 9, 10, 11, 12, 13, 14, 15, 16, 17]) (.sH (.sH .zH (.sH (.sH .zH (.bH (.lH [0, 1, 2, 7, 8, 9] (.sH .zH (.sH (.bH (.sH (.sH (.dH [0, 0, 3, 7, 0, 0, 32, 112, 240, 511, 1023] [0, 1, 2, 3, 4, 5, 6, 7, 8, 9, 10]) .zH) (.dH [0, 0, 0, 0, 8, 0, 0, 64, 224, 480, 0, 0, 3072, 7168, 16355, 32739, 65535, 131071] [0, 1, 2, 3, 4, 5, 6, 7, 8, 9, 10, 11, 12, 13, 14, 15, 16, 17]))) .zH))))) .zH)) (.sH .zH (.sH (.sH .zH (.bH (.lH [0, 1, 2, 7, 8, 10] (.sH .zH (.sH (.bH (.sH (.sH (.dH [0, 0, 3, 7, 0, 0, 32, 112, 240, 511, 1023] [0, 1, 2, 3, 4, 5, 6, 7, 8, 9, 10]) .zH) (.dH [0, 0, 0, 0, 8, 0, 0, 64, 224, 480, 0, 0, 3072, 7168, 16355, 32739, 65535, 131071] [0, 1, 2, 3, 4, 5, 6, 7, 8, 9, 10, 11, 12, 13, 14, 15, 16, 17]))) .zH))))) .zH)))))))) .zH))))) .zH))),
  (82, .sH .zH (.sH (.dH [0, 0, 0, 0, 0, 0, 48, 112, 0, 0, 768, 1792, 4083, 8179, 16383, 32767] [0, 1, 2, 3, 4, 5, 6, 7, 8, 9, 10, 11, 12, 13, 14, 15]) (.sH .zH (.sH (.bH (.lH [0, 1, 9, 10] (.bH (.sH (.bH (.lH [0, 1, 9, 10] (.sH (.sH (.dH [0, 0, 3, 7, 15, 15, 63, 127, 15, 15, 783, 1807, 4095, 8191, 16383] [0, 1, 2, 3, 4, 5, 6, 7, 8, 9, 10, 11, 12, 13, 14]) .zH) .zH))) (.sH (.bH (.lH [0, 1, 9, 10] (.sH (.sH (.dH [0, 0, 3, 7, 15, 15, 63, 127, 15, 15, 783, 1807, 4095, 8191] [0, 1, 2, 3, 4, 5, 6, 7, 8, 9, 10, 11, 12, 13]) .zH) .zH))) (.sH .zH (.sH (.dH [0, 0, 0, 0, 0, 0, 48, 112, 0, 0, 768, 1792, 4083, 8179, 16383, 32767] [0, 1, 2, 3, 4, 5, 6, 7, 8, 9, 10, 11, 12, 13, 14, 15]) .zH))))))) .zH)))),
  (83, .sH .zH (.sH (.dH [0, 0, 0, 0, 0, 0, 48, 112, 0, 0, 768, 1792, 4083, 8179, 16383, 32767] [0, 1, 2, 3, 4, 5, 6, 7, 8, 9, 10, 11, 12, 13, 14, 15]) (.sH .zH (.sH (.bH (.lH [0, 1, 10, 11] (.sH (.sH (.dH [0, 0, 3, 7, 15, 15, 63, 127, 15, 15, 783, 1807, 4095, 8191] [0, 1, 2, 3, 4, 5, 6, 7, 8, 9, 10, 11, 12, 13]) .zH) .zH))) (.sH (.bH (.lH [0, 1, 10, 11] (.sH (.sH (.dH [0, 0, 3, 7, 15, 15, 63, 127, 15, 15, 783, 1807, 4095, 8191, 16383] [0, 1, 2, 3, 4, 5, 6, 7, 8, 9, 10, 11, 12, 13, 14]) .zH) .zH))) (.sH (.sH .zH (.sH (.sH (.dH [0, 0, 0, 0, 0, 0, 48, 112, 0, 0, 768, 1792, 4083, 8179, 16383, 32767] [0, 1, 2, 3, 4, 5, 6, 7, 8, 9, 10, 11, 12, 13, 14, 15]) .zH) .zH)) (.sH (.dH [0, 0, 0, 0, 0, 0, 48, 112, 0, 0, 768, 1792, 4083, 8179, 16383, 32767] [0, 1, 2, 3, 4, 5, 6, 7, 8, 9, 10, 11, 12, 13, 14, 15]) (.sH .zH (.sH .zH (.sH (.bH (.lH [0, 1, 10, 11] (.bH (.sH (.bH (.lH [0, 1, 10, 11] (.sH (.sH (.dH [0, 0, 3, 7, 15, 15, 63, 127, 15, 15, 783, 1807, 4095, 8191] [0, 1, 2, 3, 4, 5, 6, 7, 8, 9, 10, 11, 12, 13]) .zH) .zH))) (.sH (.bH (.lH [0, 1, 10, 11] (.sH (.sH (.dH [0, 0, 3, 7, 15, 15, 63, 127, 15, 15, 783, 1807, 4095, 8191, 16383] [0, 1, 2, 3, 4, 5, 6, 7, 8, 9, 10, 11, 12, 13, 14]) .zH) .zH))) (.sH .zH (.sH (.dH [0, 0, 0, 0, 0, 0, 48, 112, 0, 0, 768, 1792, 4083, 8179, 16383, 32767] [0, 1, 2, 3, 4, 5, 6, 7, 8, 9, 10, 11, 12, 13, 14, 15]) .zH))))))) (.sH (.dH [0, 0, 0, 0, 0, 0, 48, 112, 0, 0, 768, 1792, 4083, 8179, 16383, 32767] [0, 1, 2, 3, 4, 5, 6, 7, 8, 9, 10, 11, 12, 13, 14, 15]) .zH))))))))))),
  (86, .sH .zH (.bH (.lH [0, 1, 2, 6] (.sH .zH (.sH (.bH (.sH .zH (.bH (.lH [0, 1, 2, 6, 7] (.sH (.sH (.dH [0, 0, 3, 7, 15, 15, 63, 127, 15, 15, 527, 1807, 3855, 8191, 16383] [0, 1, 2, 3, 4, 5, 6, 7, 8, 9, 10, 11, 12, 13, 14]) .zH) (.sH (.bH (.dH [0, 0, 0, 0, 8, 0, 0, 64, 224, 480, 0, 0, 3072, 7168, 16355, 32739, 65535, 131071] [0, 1, 2, 3, 4, 5, 6, 7, 8, 9, 10, 11, 12, 13, 14, 15, 16, 17])) .zH)))))) .zH))))),
  (87, .sH .zH (.sH .zH (.sH .zH (.sH (.sH .zH (.bH (.lH [0, 6, 7, 8, 9] .zH))) (.sH .zH (.bH (.lH [0, 6, 7, 10] (.sH .zH (.sH (.bH (.sH (.dH [0, 0, 0, 0, 0, 24, 0, 0, 0, 384, 960, 1984, 0, 0, 12288, 28672, 65475, 131011, 262143, 524287] [0, 1, 2, 3, 4, 5, 6, 7, 8, 9, 10, 11, 12, 13, 14, 15, 16, 17, 18, 19]) .zH)) .zH))))))))),
  (88, .sH .zH (.sH .zH (.sH (.sH .zH (.sH .zH (.sH .zH (.bH (.lH [0, 1, 6, 7, 8, 9] (.sH .zH (.sH (.bH (.sH .zH (.sH .zH (.dH [0, 0, 0, 0, 0, 24, 0, 0, 0, 384, 960, 1984, 0, 0, 12288, 28672, 65475, 131011, 262143, 524287] [0, 1, 2, 3, 4, 5, 6, 7, 8, 9, 10, 11, 12, 13, 14, 15, 16, 17, 18, 19])))) .zH))))))) .zH))),
  (90, .sH .zH (.sH .zH (.bH (.lH [0, 6, 7] (.sH .zH (.bH (.sH (.dH [0, 0, 0, 0, 0, 0, 48, 112, 0, 0, 768, 1792, 4083, 8179, 16383, 32767] [0, 1, 2, 3, 4, 5, 6, 7, 8, 9, 10, 11, 12, 13, 14, 15]) .zH))))))),
  (91, .sH .zH (.sH .zH (.sH (.sH .zH (.bH (.lH [0, 1, 2, 7, 8] (.sH .zH (.jH [0, 1, 2, 7, 8] (.bH (.sH (.bH (.lH [0, 1, 2, 7, 8] (.sH (.sH (.dH [0, 0, 3, 7, 15, 15, 63, 127, 15, 15, 527, 1807, 3855, 8191, 16383, 32767] [0, 1, 2, 3, 4, 5, 6, 7, 8, 9, 10, 11, 12, 13, 14, 15]) .zH) .zH))) (.sH .zH (.sH .zH (.sH (.dH [0, 0, 0, 0, 8, 0, 0, 64, 224, 480, 0, 0, 3072, 7168, 16355, 32739, 65535, 131071] [0, 1, 2, 3, 4, 5, 6, 7, 8, 9, 10, 11, 12, 13, 14, 15, 16, 17]) (.sH (.sH .zH (.sH (.sH .zH (.bH (.lH [0, 1, 2, 7, 8, 9] (.sH .zH (.sH (.bH (.sH (.sH (.dH [0, 0, 3, 7, 0, 0, 32, 112, 240, 511, 1023] [0, 1, 2, 3, 4, 5, 6, 7, 8, 9, 10]) .zH) (.dH [0, 0, 0, 0, 8, 0, 0, 64, 224, 480, 0, 0, 3072, 7168, 16355, 32739, 65535, 131071] [0, 1, 2, 3, 4, 5, 6, 7, 8, 9, 10, 11, 12, 13, 14, 15, 16, 17]))) .zH))))) .zH)) (.sH .zH (.sH (.sH .zH (.bH (.lH [0, 1, 2, 7, 8, 10] (.sH .zH (.sH (.bH (.sH (.sH (.dH [0, 0, 3, 7, 0, 0, 32, 112, 240, 511, 1023] [0, 1, 2, 3, 4, 5, 6, 7, 8, 9, 10]) .zH) (.dH [0, 0, 0, 0, 8, 0, 0, 64, 224, 480, 0, 0, 3072, 7168, 16355, 32739, 65535, 131071] [0, 1, 2, 3, 4, 5, 6, 7, 8, 9, 10, 11, 12, 13, 14, 15, 16, 17]))) .zH))))) .zH)))))))) .zH))))) .zH))),
  (93, .sH .zH (.sH (.dH [0, 0, 0, 0, 0, 0, 48, 112, 0, 0, 768, 1792, 4083, 8179, 16383, 32767] [0, 1, 2, 3, 4, 5, 6, 7, 8, 9, 10, 11, 12, 13, 14, 15]) (.sH .zH (.sH (.bH (.lH [0, 1, 9, 10] (.bH (.sH (.bH (.lH [0, 1, 9, 10] (.sH (.sH (.dH [0, 0, 3, 7, 15, 15, 63, 127, 15, 15, 783, 1807, 4095, 8191, 16383] [0, 1, 2, 3, 4, 5, 6, 7, 8, 9, 10, 11, 12, 13, 14]) .zH) .zH))) (.sH (.bH (.lH [0, 1, 9, 10] (.sH (.sH (.dH [0, 0, 3, 7, 15, 15, 63, 127, 15, 15, 783, 1807, 4095, 8191] [0, 1, 2, 3, 4, 5, 6, 7, 8, 9, 10, 11, 12, 13]) .zH) .zH))) (.sH .zH (.sH (.dH [0, 0, 0, 0, 0, 0, 48, 112, 0, 0, 768, 1792, 4083, 8179, 16383, 32767] [0, 1, 2, 3, 4, 5, 6, 7, 8, 9, 10, 11, 12, 13, 14, 15]) .zH))))))) .zH)))),
  (94, .sH .zH (.sH (.dH [0, 0, 0, 0, 0, 0, 48, 112, 0, 0, 768, 1792, 4083, 8179, 16383, 32767] [0, 1, 2, 3, 4, 5, 6, 7, 8, 9, 10, 11, 12, 13, 14, 15]) (.sH .zH (.sH (.bH (.lH [0, 1, 10, 11] (.sH (.sH (.dH [0, 0, 3, 7, 15, 15, 63, 127, 15, 15, 783, 1807, 4095, 8191] [0, 1, 2, 3, 4, 5, 6, 7, 8, 9, 10, 11, 12, 13]) .zH) .zH))) (.sH (.bH (.lH [0, 1, 10, 11] (.sH (.sH (.dH [0, 0, 3, 7, 15, 15, 63, 127, 15, 15, 783, 1807, 4095, 8191, 16383] [0, 1, 2, 3, 4, 5, 6, 7, 8, 9, 10, 11, 12, 13, 14]) .zH) .zH))) (.sH (.sH .zH (.sH (.sH (.dH [0, 0, 0, 0, 0, 0, 48, 112, 0, 0, 768, 1792, 4083, 8179, 16383, 32767] [0, 1, 2, 3, 4, 5, 6, 7, 8, 9, 10, 11, 12, 13, 14, 15]) .zH) .zH)) (.sH (.dH [0, 0, 0, 0, 0, 0, 48, 112, 0, 0, 768, 1792, 4083, 8179, 16383, 32767] [0, 1, 2, 3, 4, 5, 6, 7, 8, 9, 10, 11, 12, 13, 14, 15]) (.sH .zH (.sH .zH (.sH (.bH (.lH [0, 1, 10, 11] (.bH (.sH (.bH (.lH [0, 1, 10, 11] (.sH (.sH (.dH [0, 0, 3, 7, 15, 15, 63, 127, 15, 15, 783, 1807, 4095, 8191] [0, 1, 2, 3, 4, 5, 6, 7, 8, 9, 10, 11, 12, 13]) .zH) .zH))) (.sH (.bH (.lH [0, 1, 10, 11] (.sH (.sH (.dH [0, 0, 3, 7, 15, 15, 63, 127, 15, 15, 783, 1807, 4095, 8191, 16383] [0, 1, 2, 3, 4, 5, 6, 7, 8, 9, 10, 11, 12, 13, 14]) .zH) .zH))) (.sH .zH (.sH (.dH [0, 0, 0, 0, 0, 0, 48, 112, 0, 0, 768, 1792, 4083, 8179, 16383, 32767] [0, 1, 2, 3, 4, 5, 6, 7, 8, 9, 10, 11, 12, 13, 14, 15]) .zH))))))) (.sH (.dH [0, 0, 0, 0, 0, 0, 48, 112, 0, 0, 768, 1792, 4083, 8179, 16383, 32767] [0, 1, 2, 3, 4, 5, 6, 7, 8, 9, 10, 11, 12, 13, 14, 15]) .zH))))))))))),
  (95, .sH .zH (.bH (.lH [0, 2, 3, 8] (.bH (.sH .zH (.sH .zH (.sH (.sH (.dH [0, 1, 0, 7, 15, 31, 31, 31, 223, 511, 1023, 31, 31, 31, 12319, 28703, 63519, 129055, 262143, 524287] [0, 1, 2, 3, 4, 5, 6, 7, 8, 9, 10, 11, 12, 13, 14, 15, 16, 17, 18, 19]) .zH) (.sH (.sH (.dH [0, 0, 0, 6, 15, 31, 0, 0, 0, 384, 960, 1984, 4095, 8191] [0, 1, 2, 3, 4, 5, 6, 7, 8, 9, 10, 11, 12, 13]) .zH) (.sH (.dH [0, 0, 0, 6, 0, 0, 0, 96, 0, 0, 0, 1536, 3840, 7936, 0, 0, 0, 98304, 245760, 507904, 1048335, 2096911, 4194303, 8388607] [0, 1, 2, 3, 4, 5, 6, 7, 8, 9, 10, 11, 12, 13, 14, 15, 16, 17, 18, 19, 20, 21, 22, 23]) .zH))))))))),
  (97, .sH .zH (.sH (.dH [0, 1, 3, 0, 8, 24, 56, 127, 255, 511] [0, 1, 2, 3, 4, 5, 6, 7, 8, 9]) (.sH (.dH [0, 1, 3, 0, 8, 24, 56, 127, 255, 511] [0, 1, 2, 3, 4, 5, 6, 7, 8, 9]) (.sH (.dH [0, 1, 3, 0, 8, 24, 56, 127, 255, 511] [0, 1, 2, 3, 4, 5, 6, 7, 8, 9]) .zH)))),
  (101, .sH .zH (.bH (.lH [0, 2, 3, 8] (.bH (.sH .zH (.sH .zH (.sH (.sH (.dH [0, 1, 0, 7, 15, 31, 31, 31, 223, 511, 1023, 31, 31, 31, 12319, 28703, 63519, 129055, 262143, 524287] [0, 1, 2, 3, 4, 5, 6, 7, 8, 9, 10, 11, 12, 13, 14, 15, 16, 17, 18, 19]) .zH) (.sH (.sH (.dH [0, 0, 0, 6, 15, 31, 0, 0, 0, 384, 960, 1984, 4095, 8191] [0, 1, 2, 3, 4, 5, 6, 7, 8, 9, 10, 11, 12, 13]) .zH) (.sH (.dH [0, 0, 0, 6, 0, 0, 0, 96, 0, 0, 0, 1536, 3840, 7936, 0, 0, 0, 98304, 245760, 507904, 1048335, 2096911, 4194303, 8388607] [0, 1, 2, 3, 4, 5, 6, 7, 8, 9, 10, 11, 12, 13, 14, 15, 16, 17, 18, 19, 20, 21, 22, 23]) .zH))))))))),
  (105, .sH .zH (.sH (.sH (.dH [0, 0, 3, 7, 0, 0, 48, 112, 255] [0, 1, 2, 3, 4, 5, 6, 7, 8]) .zH) .zH)),
  (106, .sH .zH (.sH (.sH (.dH [0, 0, 3, 7, 0, 0, 48, 112, 255] [0, 1, 2, 3, 4, 5, 6, 7, 8]) .zH) .zH)),
  (124, .sH .zH (.sH (.sH .zH (.sH (.dH [0, 1, 0, 4, 12, 28, 60, 0, 252, 511, 1023, 2047] [0, 1, 2, 3, 4, 5, 6, 7, 8, 9, 10, 11]) .zH)) (.dH [0, 1, 3, 7, 15, 0, 0, 64, 255, 511] [0, 1, 2, 3, 4, 5, 6, 7, 8, 9]))),
  (128, .sH .zH (.sH (.bH (.lH [1, 2, 3] (.sH .zH (.bH (.dH [0, 1, 0, 4, 12, 28, 60, 0, 252, 511, 1023, 2047] [0, 1, 2, 3, 4, 5, 6, 7, 8, 9, 10, 11]))))) (.dH [0, 1, 3, 7, 15, 0, 32, 127, 0, 256, 1023] [0, 1, 2, 3, 4, 5, 6, 7, 8, 9, 10]))),
  (130, .sH .zH (.sH .zH (.sH .zH (.sH (.sH .zH (.bH (.lH [8, 37, 38, 39] .zH))) .zH)))),
  (131, .sH .zH (.sH .zH (.sH .zH (.sH (.sH .zH (.bH (.lH [0, 5, 6] .zH))) .zH))))]
def hintsL : List (Nat × Hint) := hintsLP1 ++ hintsLP2
end Go.AI
end
section
set_option linter.unusedSimpArgs false
set_option linter.unusedVariables false
set_option maxRecDepth 1000000
/- Rows of acts as arguments; how many they are; the page's example; no condition but those that each names. -/
namespace Go.AI
open Go.Proofs Go.Shelf Go.Sort
structure ActM where
  (kind : Int) (nm : List UInt8) (ba : Option Addr) (b : List Int) (la : Option Addr) (l : List Int) (n a mode : Int) (wide near : Bool)
abbrev ActM.cells (q : ActM) : List Value := actV q.kind q.nm q.ba q.b.length q.la q.l.length q.n q.a q.mode q.wide q.near
/-- What is known of an act. -/
structure ActM.ok (q : ActM) (X : List (Nat × AObj)) : Prop where
  hb : Inp u8 q.ba q.b X
  hl : Inp u32 q.la q.l X
  b8 : ∀ c ∈ q.b, 0 ≤ c ∧ c < 256
  l32 : ∀ c ∈ q.l, 0 ≤ c ∧ c ≤ 4294967295
  ha : -9223372036854775808 ≤ q.a ∧ q.a ≤ 9223372036854775807
  bl : q.b.length ≤ 140737488355328
  ll : q.l.length ≤ 140737488355328
theorem ActM.ok.mono {q : ActM} {X Y : List (Nat × AObj)} (h : q.ok X) (hs : ∀ p ∈ X, p ∈ Y) : q.ok Y := ⟨h.hb.mono hs, h.hl.mono hs, h.b8, h.l32, h.ha, h.bl, h.ll⟩
def cellsA : List ActM → List Value
  | [] => []
  | q :: l => q.cells ++ cellsA l
theorem cellsA_len : ∀ l : List ActM, (cellsA l).length = l.length * 9
  | [] => rfl
  | q :: l => by simp [cellsA, cellsA_len l]; omega
theorem cellsA_at : ∀ (l : List ActM) (i : Nat) (q : ActM), l[i]? = some q → ((cellsA l).drop (i * 9)).take 9 = q.cells
  | [], i, q, h => by simp at h
  | p :: l, 0, q, h => by
    simp at h
    subst h
    simp [cellsA]
  | p :: l, i + 1, q, h => by
    have := cellsA_at l i q (by simpa using h)
    have e : (i + 1) * 9 = p.cells.length + i * 9 := by simp; omega
    rw [cellsA, e, List.drop_append, List.drop_of_length_le (by omega), List.nil_append]
    rw [show p.cells.length + i * 9 - p.cells.length = i * 9 by omega]
    exact this
theorem cellsA_get : ∀ (l : List ActM) (i o : Nat) (q : ActM), l[i]? = some q → o < 9 → (cellsA l)[i * 9 + o]? = q.cells[o]? := by
  intro l i o q h ho
  have := cellsA_at l i q h
  rw [← this, List.getElem?_take_of_lt ho, List.getElem?_drop]
/-- A row of acts that is known. -/
def RdA (a : Option Addr) (l : List ActM) (X : List (Nat × AObj)) : Prop := l = [] ∨ ∃ r, a = some ⟨r, 0, none⟩ ∧ (r, AObj.row .ro (cellsA l)) ∈ X
theorem RdA.mono {a : Option Addr} {l : List ActM} {X Y : List (Nat × AObj)} (h : RdA a l X) (hs : ∀ p ∈ X, p ∈ Y) : RdA a l Y := by
  rcases h with h | ⟨r, h1, h2⟩
  · exact .inl h
  · exact .inr ⟨r, h1, hs _ h2⟩
def sumA (l : List ActM) : Nat := (l.map fun q => q.b.length + q.l.length).sum
theorem sumA_snoc (l : List ActM) (q : ActM) : sumA (l ++ [q]) = sumA l + (q.b.length + q.l.length) := by unfold sumA; simp
theorem sumA_mem {l : List ActM} {q : ActM} (h : q ∈ l) : q.b.length + q.l.length ≤ sumA l := by
  obtain ⟨A, B, rfl⟩ := List.append_of_mem h
  unfold sumA
  simp
  omega
theorem sumA_le {l : List ActM} {B : Nat} (h : ∀ q ∈ l, q.b.length ≤ B ∧ q.l.length ≤ B) : sumA l ≤ l.length * (2 * B) := by
  induction l with
  | nil => simp [sumA]
  | cons q l ih =>
    have h1 := h q (by simp)
    have h2 := ih fun r hr => h r (by simp [hr])
    have : sumA (q :: l) = q.b.length + q.l.length + sumA l := by unfold sumA; simp
    rw [this, List.length_cons, Nat.succ_mul]
    omega
section
variable {σ : AS} {K : Value → AS → Prop} {X fr : List (Nat × AObj)} {s w k : Nat} {most last n : Int} {F : List Fi} {S : List Sm} {l : List ActM} {a : Option Addr}
/-- An act of the row, read. -/
theorem rdA {G : List Value → Prop} {i : Nat} {q : ActM} (ha : RdA a l X) (H : Has σ X) (hi : l[i]? = some q) (hG : G q.cells) :
    req (0 ≤ (i : Int)) (req ((i : Int) < (l.length : Int)) (pSome a fun a0 => req (9 = szOf Tryz.prog 26) (lds σ (Addr.add a0 (Int.toNat (i : Int) * szOf Tryz.prog 26)) 9 G))) := by
  have hlt := (List.getElem?_eq_some_iff.1 hi).1
  rcases ha with rfl | ⟨r, rfl, hm⟩
  · simp at hi
  · refine req_mk (by omega) (req_mk (by omega) ?_)
    rw [pSome_some, sz26]
    refine req_mk rfl ?_
    rw [add_none, Int.toNat_natCast, Nat.zero_add]
    refine ldsm H hm (by rw [cellsA_len]; omega) ?_
    rw [cellsA_at l i q hi]
    exact hG
theorem rdA1 {G : Value → Prop} {i o : Nat} {q : ActM} {v : Value} (ha : RdA a l X) (H : Has σ X) (hi : l[i]? = some q) (ho : o < 9) (hv : q.cells[o]? = some v) (hG : G v) :
    req (0 ≤ (i : Int)) (req ((i : Int) < (l.length : Int)) (pSome a fun a0 => req (9 = szOf Tryz.prog 26) (ldc σ ⟨(Addr.add a0 (Int.toNat (i : Int) * szOf Tryz.prog 26)).block, (Addr.add a0 (Int.toNat (i : Int) * szOf Tryz.prog 26)).off + o, none⟩ G))) := by
  have hlt := (List.getElem?_eq_some_iff.1 hi).1
  rcases ha with rfl | ⟨r, rfl, hm⟩
  · simp at hi
  · refine req_mk (by omega) (req_mk (by omega) ?_)
    rw [pSome_some, sz26]
    refine req_mk rfl ?_
    rw [add_none, Int.toNat_natCast, Nat.zero_add]
    simp only
    rw [ldc_eq (H.g hm), cellsA_get l i o q hi ho, hv]
    exact hG
/-- Are there too many? -/
theorem c5 (H : Has σ X) (ha : RdA a l X) (hl : ∀ q ∈ l, q.b.length ≤ 140737488355328 ∧ q.l.length ≤ 140737488355328) (hT : K (.bool true) σ) (hF : l.length ≤ 120 → (∀ q ∈ l, q.b.length ≤ 16384 ∧ q.l.length ≤ 16384) → K (.bool false) σ) : Tri Tryz.prog 5 [.slice a l.length 9] σ K := tri_in (by
  rw [s5]
  have end_ : ∀ i : Nat, i ≤ l.length → (¬ (i : Int) < (l.length : Int) ∨ ¬ (i : Int) ≤ 120) → bmatch (decide ((l.length : Int) > 120)) (K (.bool true) σ) (K (.bool (decide (((sumA (l.take i) : Nat) : Int) > 16384))) σ) := by
    intro i hi h
    refine bmd_mk (fun _ => hT) (fun h2 => ?_)
    have hil : i = l.length := by omega
    subst hil
    rw [List.take_length]
    by_cases h3 : (sumA l : Int) > 16384
    · rw [decide_eq_true h3]; exact hT
    · rw [decide_eq_false h3]
      exact hF (by omega) fun q hq => by have := sumA_mem hq; omega
  refine aloop (fun (i : Nat) rg σ' => i ≤ l.length ∧ i ≤ 121 ∧ σ' = σ ∧ rg = [(0, some (.slice a l.length 9)), (3, some (i64 (sumA (l.take i)))), (4, some (i64 i))]) (fun i => l.length - i) ?_ (a := 0) ⟨Nat.zero_le _, by omega, rfl, by simp [sumA]⟩
  rintro i rg σ1 Y hY ⟨hi, hi2, rfl, rfl⟩
  rw [s5l]
  refine bmd_mk (fun h1 => bmd_mk (fun h2 => ?_) (fun h2 => end_ i hi (.inr h2))) (fun h1 => end_ i hi (.inl h1))
  obtain ⟨q, hq⟩ : ∃ q, l[i]? = some q := ⟨l[i]'(by omega), by simp⟩
  have hqm := hl q (List.mem_of_getElem? hq)
  have nb : nilOr q.ba 1 1 = true := by unfold nilOr; rfl
  have nl : nilOr q.la 1 1 = true := by unfold nilOr; rfl
  refine rdA1 (o := 2) ha H hq (by omega) rfl ?_
  rw [tL_ok_eq nb]
  refine rdA1 (o := 3) ha H hq (by omega) rfl ?_
  rw [tL_ok_eq nl]
  have et : l.take (i + 1) = l.take i ++ [q] := by rw [List.take_add_one, hq]; rfl
  have hs : sumA (l.take i) ≤ 121 * (2 * 140737488355328) := by
    refine Nat.le_trans (sumA_le (B := 140737488355328) fun q hq => hl q (List.mem_of_mem_take hq)) (Nat.mul_le_mul_right _ ?_)
    rw [List.length_take]
    omega
  have ew : IntKind.wrap .i64 (IntKind.wrap .i64 ((sumA (l.take i) : Int) + (q.b.length : Int)) + (q.l.length : Int)) = ((sumA (l.take (i + 1)) : Nat) : Int) := by
    rw [et, sumA_snoc, wrap64 (n := (sumA (l.take i) : Int) + (q.b.length : Int)) (by omega) (by omega), wrap64 (by omega) (by omega)]
    omega
  rw [ew, wrap1 (by omega)]
  exact hY (i + 1) _ _ (by omega) ⟨by omega, by omega, rfl, rfl⟩)
end
-- the page's example
theorem live_run : callN Tryz.prog hintsL noE 60 6 [] AS.nil (fun v _ => v = .bool true) = (Value.bool true = .bool true) := by kernel_rfl
theorem tri_hard {f : Nat} {args : List Value} {σ : AS} {K : Value → AS → Prop} (h : callN Tryz.prog hintsL noE 60 f args σ K) : Tri Tryz.prog f args σ K :=
  callN_sound (E := noE) (fun f g e => by cases e) Tryz.checked.mixed noGoS 60 f args σ K h
theorem live_tri : Tri Tryz.prog 6 [] AS.nil (fun v _ => v = .bool true) := tri_hard (by rw [live_run])
theorem c6 {σ : AS} {K : Value → AS → Prop} (hK : K (.bool true) σ) : Tri Tryz.prog 6 [] σ K :=
  tri_pure (R := fun v => v = .bool true) rfl live_tri (fun v h => by subst h; rfl) (fun v h => by subst h; exact hK)
section
theorem wf_i64 {c : Int} (h : (Lit.int .i64 c).wf = true) : -9223372036854775808 ≤ c ∧ c ≤ 9223372036854775807 := by simpa [Lit.wf, IntKind.min, IntKind.max, IntKind.signed, IntKind.bits] using h
abbrev RAct {H : Type} : DataW H → AS → List Value → AS → Prop := RStruct [RInt .i64, RStr, RSlice 1 (RInt .u8), RSlice 1 (RInt .u32), RInt .i64, RInt .i64, RInt .i64, RBool, RBool]
/-- An act's lists are no longer than memory. -/
def DOk {H : Type} (d : DataW H) : Prop := ∀ parts, d = .agg parts → ∀ j elems spare, (j = 2 ∨ j = 3) → parts[j]? = some (.slice elems spare) → elems.length ≤ 140737488355328
theorem slice_len1 {H : Type} {k : IntKind} {d : DataW H} {σ σ' : AS} {a : Option Addr} {n B : Nat} (h : RSlice 1 (RInt k) d σ [.slice a n 1] σ') (hB : ∀ elems spare, d = .slice elems spare → elems.length ≤ B) : n ≤ B := by
  rcases h with ⟨_, h, _⟩ | ⟨_, _, h, _⟩ | ⟨elems, spare, avs, σ1, hd, _, hl, _, h, _⟩
  · injection h with h; injection h with _ h; omega
  · injection h with h; injection h with _ h; omega
  · have := hB _ _ hd
    injection h with h; injection h with _ h; omega
theorem one_act {H : Type} {d : DataW H} {σ σ' : AS} {av : List Value} (h : RAct d σ av σ') (hd : DOk d) {L : List (Nat × AObj)} (HL : Has σ L) :
    ∃ (q : ActM) (fr : List (Nat × AObj)), av = q.cells ∧ Has σ' (fr ++ L) ∧ q.ok (fr ++ L) := by
  obtain ⟨parts, avs, rfl, ht, rfl⟩ := h
  rcases ht with _ | ⟨h0, ht⟩
  rcases ht with _ | ⟨h1, ht⟩
  rcases ht with _ | ⟨h2, ht⟩
  rcases ht with _ | ⟨h3, ht⟩
  rcases ht with _ | ⟨h4, ht⟩
  rcases ht with _ | ⟨h5, ht⟩
  rcases ht with _ | ⟨h6, ht⟩
  rcases ht with _ | ⟨h7, ht⟩
  rcases ht with _ | ⟨h8, ht⟩
  cases ht
  obtain ⟨x0, rfl, w0, rfl, rfl⟩ := h0
  obtain ⟨x1, rfl, w1, rfl, rfl⟩ := h1
  obtain ⟨a2, l2, f2, rfl, g2, H2, i2⟩ := slice_ints h2 HL
  obtain ⟨a3, l3, f3, rfl, g3, H3, i3⟩ := slice_ints h3 H2
  obtain ⟨x4, rfl, w4, rfl, rfl⟩ := h4
  obtain ⟨x5, rfl, w5, rfl, rfl⟩ := h5
  obtain ⟨x6, rfl, w6, rfl, rfl⟩ := h6
  obtain ⟨b7, rfl, rfl, rfl⟩ := h7
  obtain ⟨b8, rfl, rfl, rfl⟩ := h8
  obtain ⟨nm, rfl⟩ := bsV_ex x1
  refine ⟨⟨x0, nm, a2, l2, a3, l3, x4, x5, x6, b7, b8⟩, f3 ++ f2, rfl, by rw [List.append_assoc]; exact H3, ⟨?_, ?_, fun c hc => by have := wf_u8 (g2 c hc); omega, fun c hc => wf_u32 (g3 c hc), wf_i64 w5, ?_, ?_⟩⟩
  · rcases i2 with h | ⟨r, q1, q2⟩
    · exact .inl h
    · exact .inr ⟨r, .ro, q1, by rw [q2]; simp⟩
  · rcases i3 with h | ⟨r, q1, q2⟩
    · exact .inl h
    · exact .inr ⟨r, .ro, q1, by rw [q2]; simp⟩
  · exact slice_len1 h2 fun elems spare e => hd _ rfl 2 elems spare (.inl rfl) (by rw [e]; rfl)
  · exact slice_len1 h3 fun elems spare e => hd _ rfl 3 elems spare (.inr rfl) (by rw [e]; rfl)
theorem thr_acts {H : Type} {ds : List (DataW H)} {σ σ' : AS} {avs : List (List Value)} (h : Thr RAct ds σ avs σ') : (∀ d ∈ ds, DOk d) → ∀ {L : List (Nat × AObj)}, Has σ L →
    ∃ (l : List ActM) (fr : List (Nat × AObj)), l.length = ds.length ∧ avs = l.map (fun q => q.cells) ∧ Has σ' (fr ++ L) ∧ ∀ q ∈ l, q.ok (fr ++ L) := by
  induction h with
  | nil => intro _ L HL; exact ⟨[], [], rfl, rfl, HL, by simp⟩
  | cons h _ ih =>
    intro hd L HL
    obtain ⟨q, f1, rfl, H1, q1⟩ := one_act h (hd _ (by simp)) HL
    obtain ⟨l, f2, e1, rfl, H2, q2⟩ := ih (fun d hd' => hd d (by simp [hd'])) H1
    refine ⟨q :: l, f2 ++ f1, by simp [e1], rfl, by rw [List.append_assoc]; exact H2, fun r hr => ?_⟩
    rcases List.mem_cons.1 hr with rfl | hr
    · exact q1.mono fun p hp => by rw [List.append_assoc]; exact List.mem_append_right _ hp
    · rw [List.append_assoc]; exact q2 r hr
theorem flat_acts : ∀ l : List ActM, (l.map fun q => q.cells).flatten = cellsA l
  | [] => rfl
  | q :: l => by rw [List.map_cons, List.flatten_cons, flat_acts l]; rfl
theorem slice_acts {H : Type} {d : DataW H} {σ σ' : AS} {av : List Value} (h : RSlice 9 RAct d σ av σ') (hd : ∀ elems spare, d = .slice elems spare → ∀ e ∈ elems, DOk e) {L : List (Nat × AObj)} (HL : Has σ L) :
    ∃ (a : Option Addr) (l : List ActM) (fr : List (Nat × AObj)), av = [.slice a l.length 9] ∧ Has σ' (fr ++ L) ∧ RdA a l (fr ++ L) ∧ ∀ q ∈ l, q.ok (fr ++ L) := by
  rcases h with ⟨_, rfl, rfl⟩ | ⟨_, _, rfl, rfl⟩ | ⟨elems, spare, avs, σ1, rfl, hne, _, ht, rfl, rfl⟩
  · exact ⟨none, [], [], rfl, HL, .inl rfl, by simp⟩
  · exact ⟨_, [], [(σ.n, .dead)], rfl, HL.new _, .inl rfl, by simp⟩
  · obtain ⟨l, fr, h1, rfl, H1, h2⟩ := thr_acts ht (hd _ _ rfl) HL
    rw [flat_acts]
    exact ⟨_, l, (σ1.n, .row .ro (cellsA l)) :: fr, by rw [h1], H1.new _, .inr ⟨_, rfl, by simp⟩, fun q hq => (h2 q hq).mono fun p hp => by rw [List.cons_append]; exact List.mem_cons_of_mem _ hp⟩
end
end Go.AI
end
section
set_option linter.unusedSimpArgs false
set_option linter.unusedVariables false
/- How an act, and a row of acts, are laid as arguments; how long its lists may be; data. -/
set_option maxRecDepth 1000000
namespace Go.AI
open Go.Proofs Go.ChangeShapes Go.WideShapes Go.ChangeAt Go.RowKit
section
variable {H : Type} {enc : TypeId × Value → H} {W : World}
theorem tk_act : TK enc Tryz.prog W 26 (RAct (H := H)) := tk_struct Tryz.underlying26 (by kernel_rfl) (.cons (tk_int Tryz.underlying3) (.cons (tk_str Tryz.underlying9) (.cons (tk_slice Tryz.underlying23 (by kernel_rfl) (tk_int Tryz.underlying5))
    (.cons (tk_slice Tryz.underlying24 (by kernel_rfl) (tk_int Tryz.underlying54)) (.cons (tk_int Tryz.underlying3) (.cons (tk_int Tryz.underlying3) (.cons (tk_int Tryz.underlying3) (.cons (tk_bool Tryz.underlying4) (.cons (tk_bool Tryz.underlying4) .nil)))))))))
theorem tk_acts : TK enc Tryz.prog W 22 (RSlice 9 (RAct (H := H))) := tk_slice Tryz.underlying22 (by kernel_rfl) tk_act
theorem sp_act : SP enc Tryz.prog W 26 := by
  refine sp_struct Tryz.underlying26 fun f hf => ?_
  simp only [List.mem_cons, List.not_mem_nil, or_false] at hf
  rcases hf with rfl | rfl | rfl | rfl | rfl | rfl | rfl | rfl | rfl
  · exact sp_int Tryz.underlying3
  · exact sp_str Tryz.underlying9
  · exact sp_slice Tryz.underlying23 (by kernel_rfl) (sp_int Tryz.underlying5)
  · exact sp_slice Tryz.underlying24 (by kernel_rfl) (sp_int Tryz.underlying54)
  · exact sp_int Tryz.underlying3
  · exact sp_int Tryz.underlying3
  · exact sp_int Tryz.underlying3
  · exact sp_bool Tryz.underlying4
  · exact sp_bool Tryz.underlying4
theorem sp_acts : SP enc Tryz.prog W 22 := sp_slice Tryz.underlying22 (by kernel_rfl) sp_act
end
section
variable {H : Type}
theorem mem_weightsAll {P : Program} {e : TypeId} : ∀ {l : List (DataW H)} {d : DataW H}, d ∈ l → ∀ n ∈ d.weights P e, n ∈ DataW.weightsAll P e l
  | c :: l, d, h, n, hn => by
    simp only [DataW.weightsAll, List.mem_append]
    rcases List.mem_cons.1 h with rfl | h
    · exact .inl hn
    · exact .inr (mem_weightsAll h n hn)
theorem dok_of {d : DataW H} (h : ∀ n ∈ d.weights Tryz.prog 26, n ≤ reachBytes) : DOk d := by
  rintro parts rfl j elems spare hj hp
  have hw : (DataW.agg parts : DataW H).weights Tryz.prog 26 = DataW.weightsEach Tryz.prog [3, 9, 23, 24, 3, 3, 3, 4, 4] parts := by
    simp [DataW.weights, Tryz.underlying26]
  rw [hw] at h
  have hr : reachBytes ≤ 140737488355328 := by decide
  have b5 : Tryz.prog.bytesOf 5 = 1 := by kernel_rfl
  have b54 : Tryz.prog.bytesOf 54 = 4 := by kernel_rfl
  rcases hj with rfl | rfl
  · have := h _ (DataW.weights_mem_each (P := Tryz.prog) (ts := [3, 9, 23, 24, 3, 3, 3, 4, 4]) (j := 2) (t := 23) rfl hp ((elems.length + spare.length) * Tryz.prog.bytesOf 5) (by simp [DataW.weights, Tryz.underlying23]))
    rw [b5] at this
    omega
  · have := h _ (DataW.weights_mem_each (P := Tryz.prog) (ts := [3, 9, 23, 24, 3, 3, 3, 4, 4]) (j := 3) (t := 24) rfl hp ((elems.length + spare.length) * Tryz.prog.bytesOf 54) (by simp [DataW.weights, Tryz.underlying24]))
    rw [b54] at this
    omega
theorem doks_of {ts : List TypeId} {ds : List (DataW H)} (h : (DataW.weightsEach Tryz.prog ts ds).all (· ≤ reachBytes) = true) {j : Nat} {elems spare : List (DataW H)} (ht : ts[j]? = some 22) (hd : ds[j]? = some (.slice elems spare)) : ∀ e ∈ elems, DOk e := by
  intro e he
  refine dok_of fun n hn => ?_
  have h1 : n ∈ (DataW.slice elems spare : DataW H).weights Tryz.prog 22 := by
    simp only [DataW.weights, Tryz.underlying22, List.mem_cons, List.mem_append]
    exact .inr (.inl (mem_weightsAll he n hn))
  have := List.all_eq_true.1 h _ (DataW.weights_mem_each ht hd n h1)
  simpa using this
theorem dok1_of {ts : List TypeId} {ds : List (DataW H)} (h : (DataW.weightsEach Tryz.prog ts ds).all (· ≤ reachBytes) = true) {j : Nat} {d : DataW H} (ht : ts[j]? = some 26) (hd : ds[j]? = some d) : DOk d := by
  refine dok_of fun n hn => ?_
  have := List.all_eq_true.1 h _ (DataW.weights_mem_each ht hd n hn)
  simpa using this
end
end Go.AI
end
